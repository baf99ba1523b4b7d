/- Walks and laws of this seat, several texts in one: RefChain, R31, S13, OwnL2, R32, R33, SL10, Open3. No conditions but those that each theorem states. -/
import Derived.Test.YtadmidkpchonhaaGreatDoorMA3
import Derived.Lib.SmallJoins
namespace Go.Proofs.YtadmidkpchonhaaGreatDoor
open Go Go.RowKit
set_option maxHeartbeats 1000000 in
theorem rchain_any (s : ByteArray) (hs : s.size ≤ 4611686018427387000) (n : Int) (w : World) :
    Calls Tryz.prog 24 #[.string s, .int .i64 n] w fun e w' => e = .returned (.string (Dg.chainB s (min n 1000).toNat)) ∧ w = w' := by
  have hN2 : (min n 1000).toNat ≤ 1000 := by omega
  have hN : ∀ k : Nat, ((k : Int) < min n 1000) ↔ k < (min n 1000).toNat := by omega
  generalize hM : (min n 1000).toNat = N at *
  clear hM
  go_enter Tryz.func24, Tryz.ntmps24
  have HN := hide hN; clear hN
  go_wp2
  go_loop [0, 5] (fun v i => ∃ k : Nat, k ≤ N ∧ i = .int .i64 k ∧ v = .string (Dg.chainB s k)) (fun _ i => N - (intOf i).toNat)
  case atStart => exact ⟨0, by omega, rfl, by rw [Dg.chainB_zero]⟩
  case round =>
    obtain ⟨k, hk, rfl, rfl⟩ := hrel
    have hz := Dg.chainB_le s k
    by_cases hlt : k < N
    · have hlt2 := (HN.out k).2 hlt
      go_wp2_with fail
      refine (rsum_any _ (by omega) _).mono ?_
      rintro e w' ⟨rfl, rfl⟩
      go_wp2
      go_round
      case rel => exact ⟨k + 1, by omega, by go_num, rfl⟩
      case measure => simp [intOf]; omega
    · obtain rfl : k = N := by omega
      have hlt2 : ¬ (k : Int) < min n 1000 := fun h => hlt ((HN.out k).1 h)
      go_wp2
      go_ret
      exact ⟨rfl, rfl⟩
end Go.Proofs.YtadmidkpchonhaaGreatDoor
/- Start, Key, Keys, Public of the reference (seals). No conditions but those that each theorem states. -/
namespace Go.Proofs.YtadmidkpchonhaaGreatDoor
open Go Go.RowKit Go.Sort
theorem rdecS_of (n : Nat) (D : ByteArray) (hD : Dg.decS n = D) (hn : n ≤ 9223372036854775807) (w : World) :
    Calls Tryz.prog 53 #[.int .i64 (n : Int)] w fun e w' => e = .returned (.string D) ∧ w = w' := by
  have e : decB n = D := by rw [← hD, Dg.decS, decB, dec_eq n hn]
  subst e
  exact decimal_any n hn w
set_option maxHeartbeats 400000 in
theorem rstart_any (s : ByteArray) (i k : Nat) (hs : s.size ≤ 1048576) (hi : i ≤ 1048576) (hk : k ≤ 1048576) (R : ByteArray) (hR : Dg.startB s i k = R) (w : World) :
    Calls Tryz.prog 25 #[.string s, .int .i64 i, .int .i64 k] w fun e w' => e = .returned (.string R) ∧ Below w.heap.size w w' := by
  have z1 := Dg.decS_size i
  have z2 := Dg.decS_size k
  unfold Dg.startB at hR
  generalize h1 : Dg.decS i = D1 at *
  generalize h2 : Dg.decS k = D2 at *
  have H1 := hide h1; have H2 := hide h2; have HR := hide hR; clear h1 h2 hR
  have hm := hide (mem3 (a := s) (b := D1) (c := D2) (n := 1048576) hs (by omega) (by omega))
  go_enter Tryz.func25, Tryz.ntmps25
  go_wp2_with fail
  refine (rdecS_of i D1 H1.out (by omega) w).mono ?_
  rintro e w1 ⟨rfl, rfl⟩
  go_wp2_with fail
  refine (rdecS_of k D2 H2.out (by omega) w).mono ?_
  rintro e w1 ⟨rfl, rfl⟩
  go_wp2_with fail
  refine (rlist_new [s, D1, D2] _ _ 3 _ rfl (len3 _ _ _) hm.out R HR.out w rfl _ rfl).mono ?_
  rintro e w3 ⟨rfl, hb3⟩
  go_wp2
  go_ret
  exact ⟨rfl, hb3⟩
theorem rchain_of (s : ByteArray) (n : Int) (k : Nat) (hn : n = k) (C : ByteArray) (hC : Dg.chainB s k = C) (hs : s.size ≤ 1048576) (hk : k ≤ 1000) (w : World) :
    Calls Tryz.prog 24 #[.string s, .int .i64 n] w fun e w' => e = .returned (.string C) ∧ w = w' := by
  subst hn; subst hC
  have e : (min (k : Int) 1000).toNat = k := by omega
  have := rchain_any s (by omega) (k : Int) w
  rw [e] at this
  exact this
set_option maxRecDepth 100000 in
set_option maxHeartbeats 1000000 in
theorem rkey_any (s : ByteArray) (i : Nat) (hs : s.size ≤ 1048576) (hi : i ≤ 1048576) (R : ByteArray) (hR : Dg.keyB s i = R) (w : World) :
    Calls Tryz.prog 45 #[.string s, .int .i64 i] w fun e w' => e = .returned (.string R) ∧ Below w.heap.size w w' := by
  have HR := hide hR; clear hR
  go_enter Tryz.func45, Tryz.ntmps45
  go_wp2
  go_loopw [5, 6] (fun v iv wr => ∃ k : Nat, k ≤ 18 ∧ iv = .int .i64 k ∧ Below w.heap.size w wr ∧ OwnS wr w.heap.size v (endsTo s i k)) (fun _ iv _ => 18 - (intOf iv).toNat)
  case atStart => exact ⟨0, by omega, rfl, Below.refl _ _, OwnS.nil _ _⟩
  case round =>
    obtain ⟨k, hk, rfl, hb, hO⟩ := hrel
    by_cases hlt : k < 18
    · have hst := startB_size s i k
      have hes := hide (endsTo_succ s i k)
      have hel : (endsTo s i k).length < 1099511627776 := by rw [endsTo_len]; omega
      generalize hc : Dg.ch s i k 15 = C at *
      have HC := hide (show Dg.chainB (Dg.startB s i k) 15 = C from hc); clear hc
      generalize hS : Dg.startB s i k = S0 at *
      have HS := hide hS; clear hS
      generalize endsTo s i k = q at *
      go_wp2_with fail
      refine (rstart_any s i k hs hi (by omega) S0 HS.out _).mono ?_
      rintro e w1 ⟨rfl, hb1⟩
      have hb' := bnext hb hb1
      go_wp2_with fail
      refine (rchain_of S0 15 15 rfl C HC.out (by omega) (by decide) _).mono ?_
      rintro e w2 ⟨rfl, rfl⟩
      have hO2 := hO.below hb1
      go_wp2_with (at_builtin; refine step_s w1 rfl (.tmp 11) (.tmp 17) rfl C w.heap.size _ q rfl hO2 rfl hel hb'.size ?_; intro v' w3 hO3 hb3)
      go_roundw
      case rel => exact ⟨k + 1, by omega, by go_num, hb'.trans hb3, by rw [hes.out]; exact hO3⟩
      case measure => simp [intOf]; omega
    · obtain rfl : k = 18 := by omega
      obtain ⟨A, c, rfl, hc, hS⟩ := hO.strs
      have hel := endsTo_len s i 18
      have HK : Hid (Dg.listB (endsTo s i 18) = R) := HR.out
      have hz := hide (fun x (hx : x ∈ endsTo s i 18) => (by rw [Dg.endsOf_size s i x hx]; decide : x.size ≤ 1048576))
      have hj := hide (joined_16 (endsTo s i 18) (by omega) hz.out)
      have hlen : Hid ((endsTo s i 18).length = 18) := hel
      clear hO
      generalize endsTo s i 18 = q at *
      go_wp2_with fail
      refine (rlist_of A c 18 q hlen.out R HK.out _ (by rw [hlen.out]; decide) hj.out hz.out hS).mono ?_
      rintro e w1 ⟨rfl, hb1⟩
      go_wp2
      go_ret
      exact ⟨rfl, bnext hb hb1⟩
def rkeysTo (s : ByteArray) (k : Nat) : List ByteArray := (List.range k).map (Dg.keyB s)
theorem rkeysTo_len (s : ByteArray) (k : Nat) : (rkeysTo s k).length = k := by rw [rkeysTo, List.length_map, List.length_range]
theorem rkeysTo_succ (s : ByteArray) (k : Nat) : rkeysTo s (k + 1) = rkeysTo s k ++ [Dg.keyB s k] := by rw [rkeysTo, List.range_succ, List.map_append]; rfl
set_option maxRecDepth 100000 in
set_option maxHeartbeats 1000000 in
theorem rkeys_any (s : ByteArray) (h : Nat) (hs : s.size ≤ 1048576) (hh : h ≤ 8) (w : World) :
    Calls Tryz.prog 17 #[.string s, .int .i64 h] w fun e w' => (∃ v, e = .returned v ∧ OwnS w' w.heap.size v (Dg.keysB s h)) ∧ Below w.heap.size w w' := by
  have hp := pow_le8 h hh
  obtain ⟨n, hn⟩ : ∃ n, 2 ^ h = n := ⟨_, rfl⟩
  have hall : Hid (rkeysTo s n = Dg.keysB s h) := by unfold Hid; rw [← hn]; rfl
  rw [hn] at hp
  have HN := hide hn; clear hn
  generalize Dg.keysB s h = KS at *
  go_enter Tryz.func17, Tryz.ntmps17
  go_wp2
  go_loopw [5, 6] (fun v iv wr => ∃ k : Nat, k ≤ n ∧ iv = .int .i64 k ∧ Below w.heap.size w wr ∧ OwnS wr w.heap.size v (rkeysTo s k)) (fun _ iv _ => n - (intOf iv).toNat)
  case atStart => exact ⟨0, by omega, rfl, Below.refl _ _, OwnS.nil _ _⟩
  case round =>
    obtain ⟨k, hk, rfl, hb, hO⟩ := hrel
    by_cases hlt : k < n
    · have hes := hide (rkeysTo_succ s k)
      have hel : (rkeysTo s k).length < 1099511627776 := by rw [rkeysTo_len]; omega
      generalize hc : Dg.keyB s k = C at *
      have HC := hide hc; clear hc
      generalize rkeysTo s k = q at *
      go_wp2_with fail
      refine (rpower_any h (by omega) n HN.out _).mono ?_
      rintro e w1 ⟨rfl, rfl⟩
      go_wp2_with fail
      refine (rkey_any s k hs (by omega) C HC.out _).mono ?_
      rintro e w1 ⟨rfl, hb1⟩
      have hb' := bnext hb hb1
      have hO2 := hO.below hb1
      go_wp2_with (at_builtin; refine step_s w1 rfl (.tmp 13) (.tmp 17) rfl C w.heap.size _ q rfl hO2 rfl hel hb'.size ?_; intro v' w3 hO3 hb3)
      go_roundw
      case rel => exact ⟨k + 1, by omega, by go_num, hb'.trans hb3, by rw [hes.out]; exact hO3⟩
      case measure => simp [intOf]; omega
    · obtain rfl : k = n := by omega
      rw [hall.out] at hO
      go_wp2_with fail
      refine (rpower_any h (by omega) k HN.out _).mono ?_
      rintro e w1 ⟨rfl, rfl⟩
      go_wp2
      go_ret
      exact ⟨⟨_, rfl, hO⟩, hb⟩
theorem keysB_lenB (s : ByteArray) (h : Nat) (hh : h ≤ 8) : 1 ≤ (Dg.keysB s h).length ∧ (Dg.keysB s h).length ≤ 256 := by
  rw [Dg.keysB_len]
  exact ⟨Nat.one_le_two_pow, pow_le8 h hh⟩
set_option maxHeartbeats 400000 in
theorem rpublic_any (s : ByteArray) (h : Nat) (hs : s.size ≤ 1048576) (hh : h ≤ 8) (R : ByteArray) (hR : Dg.publicB s h = R) (w : World) :
    Calls Tryz.prog 8 #[.string s, .int .i64 h] w fun e w' => e = .returned (.tuple #[.string R, .int .i64 0]) ∧ Below w.heap.size w w' := by
  have HR := hide hR; clear hR
  have hl := keysB_lenB s h hh
  have hz := hide (fun x (hx : x ∈ Dg.keysB s h) => (by rw [Dg.keysB_size s h x hx]; decide : x.size ≤ 1048576))
  have HR2 : Hid (Dg.root (Dg.keysB s h) = R) := HR.out
  have HK := fun W => hide (rkeys_any s h hs hh W)
  have k1 : ¬ (h : Int) < 0 := by omega
  have k2 : ¬ (8 : Int) < (h : Int) := by omega
  generalize Dg.keysB s h = KS at *
  go_enter Tryz.func8, Tryz.ntmps8
  go_wp2_with fail
  refine ((HK w).out).mono ?_
  rintro e w1 ⟨⟨v, rfl, hO⟩, hb1⟩
  obtain ⟨A, c, rfl, hc, hS⟩ := hO.strs
  clear HK
  go_wp2_with fail
  refine (rroot_of KS.length A c KS R w1 rfl HR2.out hc (by omega) hz.out hS).mono ?_
  rintro e w2 ⟨rfl, hb2⟩
  go_wp2
  go_ret2
  exact ⟨rfl, bnext hb1 hb2⟩
theorem rpublic_bad (s : ByteArray) (h : Int) (hh : h < 0 ∨ 8 < h) (w : World) :
    Calls Tryz.prog 8 #[.string s, .int .i64 h] w fun e w' => e = .returned (.tuple #[.string ⟨#[]⟩, .int .i64 1]) ∧ w = w' := by
  rcases hh with hh | hh
  · go_enter Tryz.func8, Tryz.ntmps8
    go_wp2
    go_ret2
    exact ⟨rfl, rfl⟩
  · have k1 : ¬ h < 0 := by omega
    go_enter Tryz.func8, Tryz.ntmps8
    go_wp2
    go_ret2
    exact ⟨rfl, rfl⟩
end Go.Proofs.YtadmidkpchonhaaGreatDoor
/- Checked of the reference: the plain part. -/
namespace Go.Proofs.YtadmidkpchonhaaGreatDoor
open Go Go.RowKit Go.Sort
theorem sigAt (sig : List ByteArray) (k : Nat) : sig.getD k ⟨#[]⟩ = (sig[k]?).getD ⟨#[]⟩ := List.getD_eq_getElem?_getD ..
def chTo (m : ByteArray) (sig : List ByteArray) (k : Nat) : List ByteArray := (List.range k).flatMap fun k => Dg.chained (sig.getD k ⟨#[]⟩) (15 - Dg.dig m k)
def enTo (m : ByteArray) (sig : List ByteArray) (k : Nat) : List ByteArray := (List.range k).map fun k => Dg.chainB (sig.getD k ⟨#[]⟩) (15 - Dg.dig m k)
theorem chTo_succ (m : ByteArray) (sig : List ByteArray) (k : Nat) : chTo m sig (k + 1) = chTo m sig k ++ Dg.chained (sig.getD k ⟨#[]⟩) (15 - Dg.dig m k) := by unfold chTo; rw [List.range_succ, List.flatMap_append]; simp
theorem enTo_succ (m : ByteArray) (sig : List ByteArray) (k : Nat) : enTo m sig (k + 1) = enTo m sig k ++ [Dg.chainB (sig.getD k ⟨#[]⟩) (15 - Dg.dig m k)] := by unfold enTo; rw [List.range_succ, List.map_append]; rfl
theorem enTo_18 (m : ByteArray) (sig : List ByteArray) : enTo m sig 18 = Dg.endsB m sig := rfl
theorem chTo_len (m : ByteArray) (sig : List ByteArray) (k : Nat) : (chTo m sig k).length ≤ 16 * k := by
  induction k with
  | zero => simp [chTo]
  | succ k ih => rw [chTo_succ, List.length_append, chained_len]; omega
theorem enTo_len (m : ByteArray) (sig : List ByteArray) (k : Nat) : (enTo m sig k).length = k := by rw [enTo, List.length_map, List.length_range]
theorem foldT_len (q : List ByteArray) : ∀ (i : Nat) (d : ByteArray), (Dg.foldT i d q).length = q.length := by
  induction q with
  | nil => intro _ _; rfl
  | cons a q ih => intro i d; rw [Dg.foldT, List.length_cons, ih, List.length_cons]
theorem isB_ends (m : ByteArray) (sig : List ByteArray) (h : ∀ s ∈ sig, s.size = 16) : ∀ s ∈ Dg.endsB m sig, s.size ≤ 32 := fun x hx => by
  unfold Dg.endsB at hx
  obtain ⟨k, _, rfl⟩ := List.mem_map.1 hx
  have := Dg.chainB_le (sig.getD k ⟨#[]⟩) (15 - Dg.dig m k)
  have h2 : (sig.getD k ⟨#[]⟩).size ≤ 16 := by
    rw [List.getD_eq_getElem?_getD]
    cases hg : sig[k]? with
    | none => decide
    | some s => exact Nat.le_of_eq (h s (List.mem_of_getElem? hg))
  omega
theorem int_cell {W : World} {B g n c : Nat} {T : TypeId} {xs : List Value} {k : Nat} {u : Value} (h : OwnV W B T (.slice (some ⟨g, 0, none⟩) n c) xs) (hu : xs[k]? = some u) : W.cell? ⟨g, k, none⟩ = some u := by
  have hk := (List.getElem?_eq_some_iff.1 hu).1
  rcases h.2 with ⟨h0, _⟩ | ⟨g', cap, cur, h0, _, hgb, _, _, _, htk⟩
  · injection h0 with h1 _ _; cases h1
  · injection h0 with h1 _ _
    injection h1 with h1
    injection h1 with h1 _ _
    subst h1
    rw [cell_of_row _ _ _ _ _ (0, 0) hgb, ← Array.getElem?_toList]
    have h5 : (cur.toList.take (xs.length * 1))[k]? = xs[k]? := by rw [htk]
    rw [List.getElem?_take, if_pos (by omega)] at h5
    rw [h5, hu]
end Go.Proofs.YtadmidkpchonhaaGreatDoor
/- Rows of the call's own: literals, a struct's block as a row, stores into a row. No conditions. -/
namespace Go.Proofs.YtadmidkpchonhaaGreatDoor
open Go Go.RowKit Go.Sort
section
variable {P : Program} {ops : Array Oper} {Q : Exit → Act → World → Prop} {md : Region.Mode} {S : World → Prop} {k : Nat}
theorem wpAnyL_two {i j : Nat} {oi oj : Oper} {fuel : Nat} {listed : Array Bool} {a : Act} {w : World} (hr : Region.ready md ops listed = [i, j]) (hoi : ops[i]? = some oi) (hoj : ops[j]? = some oj)
    (h1 : ∀ K' : Act → World → Prop, Hid (∀ a w, SL S k (listed.setIfInBounds i true) w → wpAnyL P md ops Q S k fuel (listed.setIfInBounds i true) a w → K' a w) → if Region.wanted oi (yielded ops a.tmps) = true then Oper.wp P oi a w K' Q else K' (a.put oi.dst undef) w)
    (h2 : ∀ K' : Act → World → Prop, Hid (∀ a w, SL S k (listed.setIfInBounds j true) w → wpAnyL P md ops Q S k fuel (listed.setIfInBounds j true) a w → K' a w) → if Region.wanted oj (yielded ops a.tmps) = true then Oper.wp P oj a w K' Q else K' (a.put oj.dst undef) w) : wpAnyL P md ops Q S k (fuel + 1) listed a w :=
  ⟨fun h0 => absurd (hr.symm.trans h0) (by simp), fun x hx => by
    rw [hr] at hx
    rcases List.mem_cons.1 hx with rfl | hx
    · exact wpOp_step hoi (fun K' hK => h1 K' (fun a w hS hW => hK a w ⟨hS, hW⟩))
    · obtain rfl := List.mem_singleton.1 hx
      exact wpOp_step hoj (fun K' hK => h2 K' (fun a w hS hW => hK a w ⟨hS, hW⟩))⟩
theorem wpAnyL_three {i j l : Nat} {oi oj ol : Oper} {fuel : Nat} {listed : Array Bool} {a : Act} {w : World} (hr : Region.ready md ops listed = [i, j, l]) (hoi : ops[i]? = some oi) (hoj : ops[j]? = some oj) (hol : ops[l]? = some ol)
    (h1 : ∀ K' : Act → World → Prop, Hid (∀ a w, SL S k (listed.setIfInBounds i true) w → wpAnyL P md ops Q S k fuel (listed.setIfInBounds i true) a w → K' a w) → if Region.wanted oi (yielded ops a.tmps) = true then Oper.wp P oi a w K' Q else K' (a.put oi.dst undef) w)
    (h2 : ∀ K' : Act → World → Prop, Hid (∀ a w, SL S k (listed.setIfInBounds j true) w → wpAnyL P md ops Q S k fuel (listed.setIfInBounds j true) a w → K' a w) → if Region.wanted oj (yielded ops a.tmps) = true then Oper.wp P oj a w K' Q else K' (a.put oj.dst undef) w)
    (h3 : ∀ K' : Act → World → Prop, Hid (∀ a w, SL S k (listed.setIfInBounds l true) w → wpAnyL P md ops Q S k fuel (listed.setIfInBounds l true) a w → K' a w) → if Region.wanted ol (yielded ops a.tmps) = true then Oper.wp P ol a w K' Q else K' (a.put ol.dst undef) w) : wpAnyL P md ops Q S k (fuel + 1) listed a w :=
  ⟨fun h0 => absurd (hr.symm.trans h0) (by simp), fun x hx => by
    rw [hr] at hx
    rcases List.mem_cons.1 hx with rfl | hx
    · exact wpOp_step hoi (fun K' hK => h1 K' (fun a w hS hW => hK a w ⟨hS, hW⟩))
    · rcases List.mem_cons.1 hx with rfl | hx
      · exact wpOp_step hoj (fun K' hK => h2 K' (fun a w hS hW => hK a w ⟨hS, hW⟩))
      · obtain rfl := List.mem_singleton.1 hx
        exact wpOp_step hol (fun K' hK => h3 K' (fun a w hS hW => hK a w ⟨hS, hW⟩))⟩
end
/-- A literal's block, laid now, as a row. -/
theorem OwnL.lit {W : World} {B : Nat} {rs : List (Value × TypeId × List Value)} (h : OwnL W B rs) (hB : B ≤ W.heap.size) (cs : Array Value) (T : TypeId) (n : Nat) (hn : cs.size = n) (hm : n ≤ maxLen) : OwnL (W.alloc (.cells cs T)) B ((.slice (some ⟨W.heap.size, 0, none⟩) n n, T, cs.toList) :: rs) := by
  subst hn
  refine h.made hB ((Below.refl _ _).alloc (Nat.le_refl _) _) ?_
  exact ⟨(Nat.mul_one _).symm, Or.inr ⟨W.heap.size, cs.size, cs, by rw [Array.length_toList], Nat.le_refl _, heap_alloc_new W _, by rw [Array.length_toList]; exact Nat.le_refl _, hm, (Nat.mul_one _).symm, by rw [Nat.mul_one, List.take_length]⟩⟩
theorem OwnV.row {W : World} {B g n : Nat} {T : TypeId} {xs : List Value} (h : OwnV W B T (.slice (some ⟨g, 0, none⟩) n n) xs) : W.heap[g]? = some (.cells xs.toArray T (0, 0)) := by
  rcases h.2 with ⟨h0, _⟩ | ⟨g', cap, cur, h0, _, hgb, _, _, hcz, htk⟩
  · injection h0 with h1 _ _; cases h1
  · injection h0 with h1 h2 h3
    injection h1 with h1
    injection h1 with h1 _ _
    subst h1
    have h4 : cur.toList = xs := by
      rw [← htk, List.take_of_length_le]
      rw [Array.length_toList, hcz, ← h3, h2]
      exact Nat.le_refl _
    rw [hgb, ← h4]
theorem OwnV.set {w : World} {B g n cap : Nat} {T : TypeId} {xs : List Value} (h : OwnV w B T (.slice (some ⟨g, 0, none⟩) n cap) xs) (j : Nat) (u : Value) : OwnV (w.setCell ⟨g, j, none⟩ u) B T (.slice (some ⟨g, 0, none⟩) n cap) (xs.set j u) := by
  have hn : xs.length = n := by
    obtain ⟨_, _, h2⟩ := OwnV.form h
    injection h2 with _ h3 _
    exact h3.symm
  unfold OwnV at *
  rw [List.length_set]
  rw [hn] at h ⊢
  exact (h.stored j _).1
/-- A store into the first row. -/
theorem OwnL.set {W : World} {B g n c : Nat} {T : TypeId} {xs : List Value} {rs : List (Value × TypeId × List Value)} (h : OwnL W B ((.slice (some ⟨g, 0, none⟩) n c, T, xs) :: rs)) (j : Nat) (u : Value) : OwnL (W.setCell ⟨g, j, none⟩ u) B ((.slice (some ⟨g, 0, none⟩) n c, T, xs.set j u) :: rs) := by
  obtain ⟨h1, h2⟩ := List.pairwise_cons.1 h.apart
  refine ⟨fun r hr => ?_, List.pairwise_cons.2 ⟨fun b hb => h1 b hb, h2⟩⟩
  rcases List.mem_cons.1 hr with rfl | hr
  · exact h.head.set j u
  · exact ownsRow_setCell_other (h.own r (List.mem_cons_of_mem _ hr)) (h1 r hr g rfl) u
theorem OwnL.setS {W : World} {B g n c : Nat} {l : List ByteArray} {rs : List (Value × TypeId × List Value)} (h : OwnL W B (sR (.slice (some ⟨g, 0, none⟩) n c) l :: rs)) (j : Nat) (s : ByteArray) : OwnL (W.setCell ⟨g, j, none⟩ (.string s)) B (sR (.slice (some ⟨g, 0, none⟩) n c) (l.set j s) :: rs) := by
  have := OwnL.set h j (.string s)
  unfold sR
  rw [List.map_set]
  exact this
end Go.Proofs.YtadmidkpchonhaaGreatDoor
/- Sign of the reference (seals). No conditions but those that each theorem states. -/
namespace Go.Proofs.YtadmidkpchonhaaGreatDoor
open Go Go.RowKit Go.Sort
theorem rPath_own (A : Option Addr) (c n : Nat) (l : List ByteArray) (i : Nat) (w : World) (hl : l.length = n) (hc : n ≤ c) (hn : n ≤ 1048576) (hs : ∀ s ∈ l, s.size ≤ 1048576) (hS : Strs w w.heap.size A l) (hi : i < n) (q : List ByteArray) (hq : Dg.path l i = q) :
    Calls Tryz.prog 26 #[.slice A n c, .int .i64 i] w fun e w' => (∃ v, e = .returned (.tuple #[v, .int .i64 0]) ∧ OwnS w' w.heap.size v q) ∧ Below w.heap.size w w' := by
  have HP := hide (rpath_any n A c l i w hl hc (by omega) hi hn hs hS)
  rw [hq] at HP
  clear hs hq
  have k1 : ¬ (n ≤ i) := by omega
  have k2 : ¬ ((i : Int) < 0) := by omega
  have k3 : ¬ ((n : Int) ≤ (i : Int)) := by omega
  go_enter Tryz.func26, Tryz.ntmps26
  go_wp2_with fail
  refine HP.out.mono ?_
  rintro e w1 ⟨⟨v, rfl, hO⟩, hb⟩
  clear HP
  go_wp2
  go_ret2
  exact ⟨⟨_, rfl, hO⟩, hb⟩
def sgTo (s : ByteArray) (i : Nat) (m : ByteArray) (k : Nat) : List ByteArray := (List.range k).map fun j => Dg.ch s i j (Dg.dig m j)
theorem sgTo_len (s : ByteArray) (i : Nat) (m : ByteArray) (k : Nat) : (sgTo s i m k).length = k := by rw [sgTo, List.length_map, List.length_range]
theorem sgTo_succ (s : ByteArray) (i : Nat) (m : ByteArray) (k : Nat) : sgTo s i m (k + 1) = sgTo s i m k ++ [Dg.ch s i k (Dg.dig m k)] := by rw [sgTo, List.range_succ, List.map_append]; rfl
set_option maxRecDepth 100000 in
set_option maxHeartbeats 4000000 in
theorem rsign_any (s m : ByteArray) (h i : Nat) (hs : s.size ≤ 1048576) (hm : m.size ≤ 4611686018427387904) (hh : h ≤ 8) (hi : i < 2 ^ h) (w : World) :
    Calls Tryz.prog 10 #[.string s, .int .i64 h, .int .i64 i, .string m] w (SealIs i h (Dg.sigB s i m) (Dg.sealPath s h i) w) := by
  have hp := pow_le8 h hh
  obtain ⟨n, hn⟩ : ∃ n, 2 ^ h = n := ⟨_, rfl⟩
  rw [hn] at hp hi
  have HN := hide hn; clear hn
  have d1 : decide ((h : Int) < 0) = false := decide_eq_false (by omega)
  have d2 : decide (8 < (h : Int)) = false := decide_eq_false (by omega)
  have d3 : decide ((i : Int) < 0) = false := decide_eq_false (by omega)
  have d4 : decide (n ≤ i) = false := decide_eq_false (by omega)
  have d5 : decide ((n : Int) ≤ (i : Int)) = false := decide_eq_false (by omega)
  go_enter Tryz.func10, Tryz.ntmps10
  go_wp2_with fail
  refine (rpower_any h (by omega) n HN.out _).mono ?_
  rintro e w1 ⟨rfl, rfl⟩
  go_wp2_with fail
  have hL0 := OwnL.lit (OwnL.lit (OwnL.nil w w.heap.size) (Nat.le_refl _) #[.int .i64 0, .slice none 0 0, .slice none 0 0] 24 3 rfl (by unfold maxLen; omega)) (by simp) #[.int .i64 (i : Int), .slice none 0 0, .slice none 0 0] 24 3 rfl (by unfold maxLen; omega)
  have hb0 := (((Below.refl w.heap.size w).alloc (Nat.le_refl _) (.cells #[.int .i64 0, .slice none 0 0, .slice none 0 0] 24)).alloc (by simp) (.cells #[.int .i64 (i : Int), .slice none 0 0, .slice none 0 0] 24))
  generalize (w.alloc (.cells #[.int .i64 0, .slice none 0 0, .slice none 0 0] 24)).alloc (.cells #[.int .i64 (i : Int), .slice none 0 0, .slice none 0 0] 24) = W0 at *
  obtain ⟨g, hg⟩ : ∃ g, (w.alloc (.cells #[.int .i64 0, .slice none 0 0, .slice none 0 0] 24)).heap.size = g := ⟨_, rfl⟩
  rw [hg] at hL0
  have hg2 : w.heap.size + 1 = g := by rw [← hg]; simp
  clear hg
  refine (rdigs_any m hm W0).mono ?_
  rintro e w1 ⟨⟨vd, rfl, hD⟩, hb1⟩
  have hdl := digI_len m 18
  obtain ⟨gd, cd, rfl⟩ : ∃ g c, vd = .slice (some ⟨g, 0, none⟩) 18 c := by
    rcases hD.2 with ⟨_, h0⟩ | ⟨g, cap, cur, h0, _⟩
    · rw [hdl] at h0; cases h0
    · exact ⟨g, cap, by rw [h0, hdl]⟩
  have hL1 := ((OwnL.made hL0 hb0.size hb1 hD).emptyS).rot3
  have hb2 := bnext hb0 hb1
  clear hD hL0 hb1 hb0
  try rw [hg2]
  go_wp2
  go_loopw [12] (fun kv wr => ∃ (k : Nat) (v : Value), k ≤ 18 ∧ kv = .int .i64 k ∧ Below w.heap.size w wr ∧ OwnL wr w.heap.size [(.slice (some ⟨g, 0, none⟩) 3 3, 24, [.int .i64 (i : Int), v, .slice none 0 0]), sR v (sgTo s i m k), (.slice (some ⟨gd, 0, none⟩) 18 cd, 3, digI m 18), (.slice (some ⟨w.heap.size, 0, none⟩) 3 3, 24, [.int .i64 0, .slice none 0 0, .slice none 0 0])]) (fun kv _ => 18 - (intOf kv).toNat)
  case atStart => exact ⟨0, _, by omega, rfl, hb2, hL1⟩
  case round =>
    obtain ⟨k, v, hk, rfl, hbr, hLr⟩ := hrel
    obtain ⟨f0, f1, f2⟩ := cells3 (OwnV.row hLr.head)
    by_cases hlt : k < 18
    · have hdi := hide (digI_get m 18 k hlt)
      have hdc := int_cell hLr.rot3.head hdi.out
      have hgdl : gd < wr.heap.size := block_lt_of_cell hdc
      have hgl : g < wr.heap.size := block_lt_of_cell f0
      have hss := hide (sgTo_succ s i m k)
      have hsl := sgTo_len s i m k
      have hd15 := Dg.dig_le m k
      have hst := startB_size s i k
      generalize hc : Dg.ch s i k (Dg.dig m k) = C at *
      have HC := hide (show Dg.chainB (Dg.startB s i k) (Dg.dig m k) = C from hc); clear hc
      generalize Dg.dig m k = d at *
      generalize hS : Dg.startB s i k = S0 at *
      have HS := hide hS; clear hS
      generalize sgTo s i m k = Q at *
      have hk0 : (0 : Int) ≤ (k : Int) := by omega
      have hk1 : (k : Int) < 18 := by omega
      clear f0 f2 d1 d2 d3 d4 d5
      go_wp2
      have hmx : Tryz.prog.follows .mixedOrders = true := by kernel_rfl
      have hHeld : (fun W : World => W.cell? ⟨g, 1, none⟩ = some v ∧ W.cell? ⟨gd, k, none⟩ = some (.int .i64 (d : Int))) wr.drew := ⟨f1, hdc⟩
      refine wp_region_noPanic ?_
      refine wp_region_L (fun W : World => W.cell? ⟨g, 1, none⟩ = some v ∧ W.cell? ⟨gd, k, none⟩ = some (.int .i64 (d : Int))) 14 hmx ?_
      refine wpAnyL_take (i := 0) (f0 := 16) (v := ?_) rfl (by decide +kernel) (by decide +kernel) (by decide +kernel) (by decide +kernel) (by decide +kernel) (fun _ _ _ h => h) (Or.inl ⟨by rfl, ?_⟩) hHeld ?_
      rotate_left
      · intro wS hS; obtain ⟨hS1, hS2⟩ := hS; go_simp; (try with_reducible rfl)
      simp only [Act.put, List.setIfInBounds_toArray]
      refine wpAnyL_take (i := 1) (f0 := 16) (v := ?_) rfl (by decide +kernel) (by decide +kernel) (by decide +kernel) (by decide +kernel) (by decide +kernel) (fun _ _ _ h => h) (Or.inl ⟨by rfl, ?_⟩) hHeld ?_
      rotate_left
      · intro wS hS; obtain ⟨hS1, hS2⟩ := hS; go_simp; (try with_reducible rfl)
      simp only [Act.put]
      refine wpAnyL_take (i := 2) (f0 := 16) (v := ?_) rfl (by decide +kernel) (by decide +kernel) (by decide +kernel) (by decide +kernel) (by decide +kernel) (fun _ _ _ h => h) (Or.inl ⟨by rfl, ?_⟩) hHeld ?_
      rotate_left
      · intro wS hS; obtain ⟨hS1, hS2⟩ := hS; go_simp; (try with_reducible rfl)
      simp only [Act.put]
      refine wpAnyL_take (i := 3) (f0 := 16) (v := ?_) rfl (by decide +kernel) (by decide +kernel) (by decide +kernel) (by decide +kernel) (by decide +kernel) (fun _ _ _ h => h) (Or.inl ⟨by rfl, ?_⟩) hHeld ?_
      rotate_left
      · intro wS hS; obtain ⟨hS1, hS2⟩ := hS; go_simp; (try with_reducible rfl)
      simp only [Act.put]
      refine wpAnyL_take (i := 4) (f0 := 16) (v := ?_) rfl (by decide +kernel) (by decide +kernel) (by decide +kernel) (by decide +kernel) (by decide +kernel) (fun _ _ _ h => h) (Or.inl ⟨by rfl, ?_⟩) hHeld ?_
      rotate_left
      · intro wS hS; obtain ⟨hS1, hS2⟩ := hS; go_simp; (try with_reducible rfl)
      simp only [Act.put]
      refine wpAnyL_take (i := 6) (f0 := 16) (v := ?_) rfl (by decide +kernel) (by decide +kernel) (by decide +kernel) (by decide +kernel) (by decide +kernel) (fun _ _ _ h => h) (Or.inl ⟨by rfl, ?_⟩) hHeld ?_
      rotate_left
      · intro wS hS; obtain ⟨hS1, hS2⟩ := hS; go_simp; (try with_reducible rfl)
      simp only [Act.put]
      refine wpAnyL_take (i := 7) (f0 := 16) (v := ?_) rfl (by decide +kernel) (by decide +kernel) (by decide +kernel) (by decide +kernel) (by decide +kernel) (fun _ _ _ h => h) (Or.inl ⟨by rfl, ?_⟩) hHeld ?_
      rotate_left
      · intro wS hS; obtain ⟨hS1, hS2⟩ := hS; go_simp; (try with_reducible rfl)
      simp only [Act.put]
      refine wpAnyL_take (i := 8) (f0 := 16) (v := ?_) rfl (by decide +kernel) (by decide +kernel) (by decide +kernel) (by decide +kernel) (by decide +kernel) (fun _ _ _ h => h) (Or.inl ⟨by rfl, ?_⟩) hHeld ?_
      rotate_left
      · intro wS hS; obtain ⟨hS1, hS2⟩ := hS; go_simp; (try with_reducible rfl)
      simp only [Act.put]
      refine wpAnyL_take (i := 9) (f0 := 16) (v := ?_) rfl (by decide +kernel) (by decide +kernel) (by decide +kernel) (by decide +kernel) (by decide +kernel) (fun _ _ _ h => h) (Or.inl ⟨by rfl, ?_⟩) hHeld ?_
      rotate_left
      · intro wS hS; obtain ⟨hS1, hS2⟩ := hS; go_simp; (try with_reducible rfl)
      simp only [Act.put]
      refine wpAnyL_one (i := 5) (by decide +kernel) (by rfl) (fun K hK => ?_)
      rw [if_pos (by rfl)]
      go_simp
      refine (rstart_any s i k hs (by omega) (by omega) S0 HS.out _).mono ?_
      rintro e wa ⟨rfl, hba⟩
      have hHa : (fun W : World => W.cell? ⟨g, 1, none⟩ = some v ∧ W.cell? ⟨gd, k, none⟩ = some (.int .i64 (d : Int))) wa := ⟨(hba.cell (by simp <;> omega)).trans f1, (hba.cell (by simp <;> omega)).trans hdc⟩
      refine hK.out _ _ (Or.inr hHa) ?_
      clear hK K
      try simp only [Act.put, List.setIfInBounds_toArray, List.set_cons_zero, List.set_cons_succ]
      refine wpAnyL_one (i := 10) (by decide +kernel) (by rfl) (fun K hK => ?_)
      rw [if_pos (by rfl)]
      go_simp
      refine (rchain_of S0 _ d rfl C HC.out (by omega) (by omega) _).mono ?_
      rintro e wa2 ⟨rfl, rfl⟩
      refine hK.out _ _ (Or.inr hHa) ?_
      clear hK K
      try simp only [Act.put, List.setIfInBounds_toArray, List.set_cons_zero, List.set_cons_succ]
      have hb3 := hbr.trans ((below_undrew hba).mono hbr.size)
      have hLa := (hLr.below (below_undrew hba)).swap
      refine wpAnyL_one (i := 11) (by decide +kernel) (by rfl) (fun K hK => ?_)
      rw [if_pos (by rfl)]
      go_simp
      have hx := Below.news (Below.refl wa.heap.size wa) (.cells #[.string C] 9)
      have hHb : (fun W : World => W.cell? ⟨g, 1, none⟩ = some v ∧ W.cell? ⟨gd, k, none⟩ = some (.int .i64 (d : Int))) (wa.alloc (.cells #[.string C] 9)) := ⟨(hx.cell (block_lt_of_cell hHa.1)).trans hHa.1, (hx.cell (block_lt_of_cell hHa.2)).trans hHa.2⟩
      refine hK.out _ _ (Or.inr hHb) ?_
      clear hK K
      try simp only [Act.put, List.setIfInBounds_toArray, List.set_cons_zero, List.set_cons_succ]
      refine wpAnyL_one (i := 12) (by decide +kernel) (by rfl) (fun K hK => ?_)
      rw [if_pos (by rfl)]
      refine wp_al (.tmp 41) (.tmp 51) 22 9 _ 16 (by rfl) Tryz.underlying22 strInfo rfl (by omega) w.heap.size _ _ _ (by rfl) (hLa.below hx) _ 1 1 [.string C] (by rfl) rfl (Src.lit wa #[.string C] 9 (fun u hu => by rw [List.mem_singleton.1 hu]; rfl)) (by rw [List.length_map]; omega) (Nat.le_trans hb3.size hx.size) ?_
      intro v5 w5 hL5 hb5
      rw [sR_snoc, ← hss.out] at hL5
      obtain ⟨A5, c5, hv5⟩ := OwnV.form hL5.head
      generalize ((sgTo s i m (k + 1)).map Value.string).length = n5 at hv5
      subst hv5
      have hb6 := (hb3.trans (hx.mono hb3.size)).trans hb5
      have hL6 := hL5.swap
      obtain ⟨g0, g1, g2⟩ := cells3 (OwnV.row hL6.head)
      have gz := frozen_of_row _ g 1 _ _ (OwnV.row hL6.head)
      have hgB := (hL6.head.lt (g := g) rfl).1
      have hdc5 := int_cell hL6.rot3.head hdi.out
      refine hK.out _ _ (Or.inr ⟨g1, hdc5⟩) ?_
      clear hK K
      try simp only [Act.put, List.setIfInBounds_toArray]
      have hH5 : (fun W : World => W.cell? ⟨g, 1, none⟩ = some v ∧ W.cell? ⟨gd, k, none⟩ = some (.int .i64 (d : Int))) w5 := ⟨g1, hdc5⟩
      refine wpAnyL_take (i := 13) (f0 := 16) (v := ?_) rfl (by decide +kernel) (by decide +kernel) (by decide +kernel) (by decide +kernel) (by decide +kernel) (fun _ _ _ h => h) (Or.inl ⟨by rfl, ?_⟩) hH5 ?_
      rotate_left
      · intro wS hS; obtain ⟨hS1, hS2⟩ := hS; go_simp; (try with_reducible rfl)
      simp only [Act.put]
      refine wpAnyL_one (i := 14) (by decide +kernel) (by rfl) (fun K hK => ?_)
      rw [if_pos (by rfl)]
      go_simp
      have hL7 := hL6.set 1 (.slice A5 n5 c5)
      have hb7 := hb6.setCell (p := ⟨g, 1, none⟩) hgB (.slice A5 n5 c5)
      refine hK.out _ _ (Or.inl (by decide +kernel)) ?_
      clear hK K
      try simp only [Act.put, List.setIfInBounds_toArray, List.set_cons_zero, List.set_cons_succ]
      refine wpAnyL_done (by decide +kernel) ?_ _
      refine NoPanic.normal ?_
      clear hHeld hHa hHb g0 g1 g2 gz f1 hdc hdc5
      go_wp2
      go_roundw
      case rel => exact ⟨k + 1, _, by omega, by go_num, hb7, hL7⟩
      case measure => simp [intOf]; omega
    · obtain rfl : k = 18 := by omega
      have hl := keysB_lenB s h hh
      have hkl := Dg.keysB_len s h
      have hz := hide (fun x (hx : x ∈ Dg.keysB s h) => (by rw [Dg.keysB_size s h x hx]; decide : x.size ≤ 1048576))
      have HK := fun W => hide (rkeys_any s h hs hh W)
      have hpl := hide (Dg.sealPath_len s h i (by rw [HN.out]; exact hi))
      obtain ⟨PT, hPT⟩ : ∃ PT, Dg.sealPath s h i = PT := ⟨_, rfl⟩
      have HPT : Hid (Dg.path (Dg.keysB s h) i = PT) := hPT
      rw [hPT] at hpl
      have HPT2 := hide hPT
      clear hPT
      have hsg : OwnL wr w.heap.size [(.slice (some ⟨g, 0, none⟩) 3 3, 24, [.int .i64 (i : Int), v, .slice none 0 0]), sR v (Dg.sigB s i m), (.slice (some ⟨gd, 0, none⟩) 18 cd, 3, digI m 18), (.slice (some ⟨w.heap.size, 0, none⟩) 3 3, 24, [.int .i64 0, .slice none 0 0, .slice none 0 0])] := hLr
      have hSGl := hide (Dg.sigB_len s i m)
      generalize Dg.sigB s i m = SG at *
      rw [HN.out] at hkl
      have Hkl := hide hkl; clear hkl
      generalize Dg.keysB s h = KS at *
      obtain ⟨Av, cv, hv⟩ := OwnV.form hsg.tail.head
      rw [List.length_map, hSGl.out] at hv
      subst hv
      clear hLr f0 f1 f2
      go_wp2_with fail
      refine ((HK wr).out).mono ?_
      rintro e w2 ⟨⟨vk, rfl, hO⟩, hb3⟩
      obtain ⟨A, c, rfl, hc, hS⟩ := hO.strs
      rw [Hkl.out] at hc hl ⊢
      clear HK hO
      have hb4 := bnext hbr hb3
      have hL4 := hsg.below hb3
      clear hsg hb3
      go_wp2_with fail
      refine (rPath_own A c n KS i w2 Hkl.out hc (by omega) hz.out hS hi PT HPT.out).mono ?_
      rintro e w3 ⟨⟨vp, rfl, hO⟩, hb5⟩
      obtain ⟨Ap, cp, hv⟩ := OwnV.form hO
      rw [List.length_map, hpl.out] at hv
      subst hv
      have hL5 := (hL4.made hb4.size hb5 hO).swap
      have hb6 := bnext hb4 hb5
      clear hL4 hb5 hO hS
      have gz2 := frozen_of_row _ g 2 _ _ (OwnV.row hL5.head)
      obtain ⟨g0, g1, g2⟩ := cells3 (OwnV.row hL5.head)
      have hr := OwnV.row (hL5.own _ (List.mem_cons_of_mem _ (List.mem_cons_of_mem _ (List.mem_cons_of_mem _ (List.mem_cons_of_mem _ (List.mem_singleton.2 rfl))))))
      obtain ⟨q0, q1, q2⟩ := cells3 hr
      have qz0 := frozen_of_row _ w.heap.size 0 _ _ hr
      have qz1 := frozen_of_row _ w.heap.size 1 _ _ hr
      have qz2 := frozen_of_row _ w.heap.size 2 _ _ hr
      have hgB := (hL5.head.lt (g := g) rfl).1
      have hLx := (hL5.set 2 (.slice Ap h cp))
      have hbx := hb6.setCell (p := ⟨g, 2, none⟩) hgB (.slice Ap h cp)
      have hLy := (((OwnL.perm hLx (List.perm_append_comm (l₁ := [_, _, _, _]) (l₂ := [_]))).set 0 (.int .i64 (i : Int))).set 1 (.slice Av 18 cv)).set 2 (.slice Ap h cp)
      have hby := ((hbx.setCell (p := ⟨w.heap.size, 0, none⟩) (Nat.le_refl _) (.int .i64 (i : Int))).setCell (p := ⟨w.heap.size, 1, none⟩) (Nat.le_refl _) (.slice Av 18 cv)).setCell (p := ⟨w.heap.size, 2, none⟩) (Nat.le_refl _) (.slice Ap h cp)
      obtain ⟨A1, c1, hv, hc1, hS1⟩ := OwnS.strs (l := SG) (OwnL.headS (l := SG) hLy.tail.tail.tail)
      rw [hSGl.out] at hv hc1
      injection hv with e1 _ e2
      subst e1 e2
      obtain ⟨A2, c2, hv, hc2, hS2⟩ := OwnS.strs (l := PT) (OwnL.headS (l := PT) hLy.tail.tail)
      rw [hpl.out] at hv hc2
      injection hv with e1 _ e2
      subst e1 e2
      obtain ⟨k0, k1, k2⟩ := cells3 (OwnV.row hLy.head)
      have hk := hide (And.intro k0 (And.intro k1 k2))
      clear hLx hL5 hb6 hb4 hLy k0 k1 k2
      go_wp2
      generalize (((w3.setCell ⟨g, 2, none⟩ (.slice Ap h cp)).setCell ⟨w.heap.size, 0, none⟩ (.int .i64 (i : Int))).setCell ⟨w.heap.size, 1, none⟩ (.slice Av 18 cv)).setCell ⟨w.heap.size, 2, none⟩ (.slice Ap h cp) = F at *
      obtain ⟨k0, k1, k2⟩ := hk.out
      clear hk
      exact bodyPost_ret (v := .tuple #[.agg #[.int .i64 i, .slice Av 18 cv, .slice Ap h cp], .int .i64 0]) (by simp [results, Tryz.results10, go_sem, k0, k1, k2]) rfl (by rw [HPT2.out]; exact ⟨Av, cv, Ap, cp, rfl, hc1, hc2, hS1, hS2, hby⟩)
theorem rsign_of (s m : ByteArray) (H I : Int) (h i : Nat) (hH : H = h) (hI : I = i) (hs : s.size ≤ 1048576) (hm : m.size ≤ 4611686018427387904) (hh : h ≤ 8) (hi : i < 2 ^ h) (sig path : List ByteArray) (h1 : Dg.sigB s i m = sig) (h2 : Dg.sealPath s h i = path) (w : World) :
    Calls Tryz.prog 10 #[.string s, .int .i64 H, .int .i64 I, .string m] w (SealIs i h sig path w) := by
  subst hH hI h1 h2; exact rsign_any s m h i hs hm hh hi w
theorem rsign_bad (s m : ByteArray) (h i : Int) (w : World) (n : Nat) (hn : 0 ≤ h → h ≤ 8 → 2 ^ h.toNat = n) (hb : h < 0 ∨ 8 < h ∨ i < 0 ∨ (n : Int) ≤ i) :
    Calls Tryz.prog 10 #[.string s, .int .i64 h, .int .i64 i, .string m] w fun e w' => e = .returned (.tuple #[.agg #[.int .i64 0, .slice none 0 0, .slice none 0 0], .int .i64 1]) ∧ Below w.heap.size w w' := by
  have hx := (((((Below.refl w.heap.size w).alloc (Nat.le_refl _) (.cells #[.int .i64 0, .slice none 0 0, .slice none 0 0] 24)).setCell (p := ⟨w.heap.size, 0, none⟩) (Nat.le_refl _) (.int .i64 0)).setCell (p := ⟨w.heap.size, 1, none⟩) (Nat.le_refl _) (.slice none 0 0)).setCell (p := ⟨w.heap.size, 2, none⟩) (Nat.le_refl _) (.slice none 0 0))
  go_enter Tryz.func10, Tryz.ntmps10
  by_cases h1 : h < 0
  · clear hn hb
    go_wp2
    exact bodyPost_ret (v := .tuple #[.agg #[.int .i64 0, .slice none 0 0, .slice none 0 0], .int .i64 1]) (by simp [results, Tryz.results10, go_sem]) rfl ⟨rfl, by first | exact hx | exact (Below.refl w.heap.size w).alloc (Nat.le_refl _) _⟩
  · have d1 : decide (h < 0) = false := decide_eq_false h1
    by_cases h2 : 8 < h
    · have d2 : decide (8 < h) = true := decide_eq_true h2
      clear hn hb
      go_wp2
      exact bodyPost_ret (v := .tuple #[.agg #[.int .i64 0, .slice none 0 0, .slice none 0 0], .int .i64 1]) (by simp [results, Tryz.results10, go_sem]) rfl ⟨rfl, by first | exact hx | exact (Below.refl w.heap.size w).alloc (Nat.le_refl _) _⟩
    · have d2 : decide (8 < h) = false := decide_eq_false h2
      by_cases h3 : i < 0
      · have d3 : decide (i < 0) = true := decide_eq_true h3
        clear hn hb
        go_wp2
        exact bodyPost_ret (v := .tuple #[.agg #[.int .i64 0, .slice none 0 0, .slice none 0 0], .int .i64 1]) (by simp [results, Tryz.results10, go_sem]) rfl ⟨rfl, by first | exact hx | exact (Below.refl w.heap.size w).alloc (Nat.le_refl _) _⟩
      · have d3 : decide (i < 0) = false := decide_eq_false h3
        have h4 : (n : Int) ≤ i := by omega
        have d4 : decide ((n : Int) ≤ i) = true := decide_eq_true h4
        obtain ⟨k, rfl⟩ := Int.eq_ofNat_of_zero_le (Int.not_lt.1 h1)
        have HN := hide (hn (by omega) (by omega)); clear hn hb
        go_wp2_with fail
        refine (rpower_any k (by omega) n HN.out _).mono ?_
        rintro e w1 ⟨rfl, rfl⟩
        go_wp2
        exact bodyPost_ret (v := .tuple #[.agg #[.int .i64 0, .slice none 0 0, .slice none 0 0], .int .i64 1]) (by simp [results, Tryz.results10, go_sem]) rfl ⟨rfl, by first | exact hx | exact (Below.refl w.heap.size w).alloc (Nat.le_refl _) _⟩
end Go.Proofs.YtadmidkpchonhaaGreatDoor
/- Verify of the reference (seals). No conditions but those that each theorem states. -/
namespace Go.Proofs.YtadmidkpchonhaaGreatDoor
open Go Go.RowKit Go.Sort
theorem rpower_same (n : Nat) (hn : n ≤ 60) (R : Nat) (hR : 2 ^ n = R) (w : World) :
    Calls Tryz.prog 22 #[.int .i64 n] w fun e w' => e = .returned (.int .i64 R) ∧ w' = w := (rpower_any n hn R hR w).mono fun _ _ ⟨h1, h2⟩ => ⟨h1, h2.symm⟩
theorem ris_same (s : ByteArray) (r : Bool) (hr : Dg.isB s = r) (hs : s.size ≤ 4611686018427387904) (w : World) :
    Calls Tryz.prog 34 #[.string s] w fun e w' => e = .returned (.bool r) ∧ w = w' := by
  subst hr; exact ris_any s hs w
theorem verifyB_main (p m : ByteArray) (i : Int) (sig path : List ByteArray) (n : Nat) (h1 : sig.length = 18) (h2 : path.length ≤ 8) (h3 : 0 ≤ i) (hn : 2 ^ path.length = n) (h4 : i < (n : Int)) :
    verifyB p m i sig path = ((allDig sig && allDig path) && checkB p (n : Int) i (Dg.listB (Dg.endsB m sig)) path) := by
  subst hn
  unfold verifyB
  rw [decide_eq_true h1, decide_eq_true h2, decide_eq_true h3, decide_eq_true h4]
  simp
theorem allDig_take (l : List ByteArray) (k : Nat) (hk : k < l.length) (h : allDig (l.take k) = true) (hx : Dg.isB l[k] = true) : allDig (l.take (k + 1)) = true := by
  rw [List.take_succ_eq_append_getElem hk]
  exact allDig_yes _ fun x hx2 => by
    rcases List.mem_append.1 hx2 with h1 | h1
    · exact allDig_mem h x h1
    · rw [List.mem_singleton.1 h1]; exact hx
set_option maxRecDepth 100000 in
set_option maxHeartbeats 1000000 in
theorem rverify_a (p m : ByteArray) (i : Int) (A A' : Option Addr) (n n' c c' : Nat) (w : World) (hn : n ≠ 18) :
    Calls Tryz.prog 13 #[.string p, .string m, .agg #[.int .i64 i, .slice A n c, .slice A' n' c']] w fun e w' => e = .returned (.bool false) ∧ Below w.heap.size w w' := by
  have e1 : ((n : Int) == 18) = false := by simp; omega
  have e2 : ((n : Int) != 18) = true := by simp; omega
  have e3 : decide (n = 18) = false := decide_eq_false hn
  go_enter Tryz.func13, Tryz.ntmps13
  go_wp2
  go_quiet (fail)
  go_wp2
  go_ret
  exact ⟨rfl, below_drewN ((Below.refl _ _).alloc (Nat.le_refl _) _) _⟩
set_option maxRecDepth 100000 in
set_option maxHeartbeats 1000000 in
theorem rverify_b (p m : ByteArray) (i : Int) (A A' : Option Addr) (n' c c' : Nat) (w : World) (hn : 8 < n') :
    Calls Tryz.prog 13 #[.string p, .string m, .agg #[.int .i64 i, .slice A 18 c, .slice A' n' c']] w fun e w' => e = .returned (.bool false) ∧ Below w.heap.size w w' := by
  have d2 : decide (8 < (n' : Int)) = true := decide_eq_true (by omega)
  have d3 : decide (8 < n') = true := decide_eq_true hn
  go_enter Tryz.func13, Tryz.ntmps13
  go_wp2
  go_quiet (fail)
  go_wp2
  go_ret
  exact ⟨rfl, below_drewN ((Below.refl _ _).alloc (Nat.le_refl _) _) _⟩
set_option maxRecDepth 100000 in
set_option maxHeartbeats 1000000 in
theorem rverify_c (p m : ByteArray) (i : Int) (A A' : Option Addr) (n' c c' : Nat) (w : World) (hn : n' ≤ 8) (hi : i < 0) :
    Calls Tryz.prog 13 #[.string p, .string m, .agg #[.int .i64 i, .slice A 18 c, .slice A' n' c']] w fun e w' => e = .returned (.bool false) ∧ Below w.heap.size w w' := by
  have d2 : decide (8 < (n' : Int)) = false := decide_eq_false (by omega)
  have d3 : decide (8 < n') = false := decide_eq_false (by omega)
  have d4 : decide (i < 0) = true := decide_eq_true hi
  go_enter Tryz.func13, Tryz.ntmps13
  go_wp2
  go_quiet (fail)
  go_wp2
  go_ret
  exact ⟨rfl, below_drewN ((Below.refl _ _).alloc (Nat.le_refl _) _) _⟩
set_option maxRecDepth 100000 in
set_option maxHeartbeats 1000000 in
theorem rverify_d (p m : ByteArray) (i : Int) (A A' : Option Addr) (n' c c' N : Nat) (w : World) (hn : n' ≤ 8) (hN : 2 ^ n' = N) (h0 : 0 ≤ i) (hi : (N : Int) ≤ i) :
    Calls Tryz.prog 13 #[.string p, .string m, .agg #[.int .i64 i, .slice A 18 c, .slice A' n' c']] w fun e w' => e = .returned (.bool false) ∧ Below w.heap.size w w' := by
  have d2 : decide (8 < (n' : Int)) = false := decide_eq_false (by omega)
  have d3 : decide (8 < n') = false := decide_eq_false (by omega)
  have d4 : decide (i < 0) = false := decide_eq_false (by omega)
  have d5 : decide ((N : Int) ≤ i) = true := decide_eq_true hi
  have HN := hide hN; clear hN
  go_enter Tryz.func13, Tryz.ntmps13
  go_wp2
  go_quiet ((go_at_call 22; exact Calls.quiet_of_same (rpower_same n' (by omega) N HN.out _)))
  go_wp2
  go_ret
  exact ⟨rfl, below_drewN ((Below.refl _ _).alloc (Nat.le_refl _) _) _⟩
set_option maxRecDepth 100000 in
set_option maxHeartbeats 4000000 in
theorem rverify_e (p m : ByteArray) (i : Nat) (A A' : Option Addr) (n' c c' N : Nat) (sig path : List ByteArray) (w : World) (hm : m.size ≤ 4611686018427387904) (hn : n' ≤ 8) (hN : 2 ^ n' = N) (hi : i < N) (hl : sig.length = 18) (hz : ∀ s ∈ sig, s.size ≤ 1048576) (hS : Strs w w.heap.size A sig)
    (hl2 : path.length = n') (hz2 : ∀ s ∈ path, s.size ≤ 1048576) (hS2 : Strs w w.heap.size A' path) (hc' : n' ≤ c') (R : Bool) (hR : ((allDig sig && allDig path) && checkB p (N : Int) i (Dg.listB (Dg.endsB m sig)) path) = R) :
    Calls Tryz.prog 13 #[.string p, .string m, .agg #[.int .i64 i, .slice A 18 c, .slice A' n' c']] w fun e w' => e = .returned (.bool R) ∧ Below w.heap.size w w' := by
  have hN256 : N ≤ 256 := by rw [← hN]; exact pow_le8 n' hn
  have d2 : decide (8 < (n' : Int)) = false := decide_eq_false (by omega)
  have d3 : decide (8 < n') = false := decide_eq_false (by omega)
  have d4 : decide ((i : Int) < 0) = false := decide_eq_false (by omega)
  have d5 : decide ((N : Int) ≤ (i : Int)) = false := decide_eq_false (by omega)
  have d6 : decide (N ≤ i) = false := decide_eq_false (by omega)
  have HN := hide hN; clear hN
  have hl' := hide hl; have hz' := hide hz; have hl2' := hide hl2; have hz2' := hide hz2; have HR := hide hR
  clear hl hz hl2 hz2 hR
  go_enter Tryz.func13, Tryz.ntmps13
  go_wp2
  go_quiet ((go_at_call 22; exact Calls.quiet_of_same (rpower_same n' (by omega) N HN.out _)))
  go_wp2_with fail
  have hW : Below w.heap.size w ((w.alloc (.cells #[.int .i64 (i : Int), .slice A 18 c, .slice A' n' c'] 24)).drewN nq) := below_drewN ((Below.refl _ _).alloc (Nat.le_refl _) _) nq
  have r0 : ((w.alloc (.cells #[.int .i64 (i : Int), .slice A 18 c, .slice A' n' c'] 24)).drewN nq).heap[w.heap.size]? = some (.cells #[.int .i64 (i : Int), .slice A 18 c, .slice A' n' c'] 24) := heap_alloc_new w _
  replace hS := keepS hS hW
  replace hS2 := keepS hS2 hW
  generalize (w.alloc (.cells #[.int .i64 (i : Int), .slice A 18 c, .slice A' n' c'] 24)).drewN nq = W0 at *
  clear d2 d3 d4 d5 d6
  refine (rdigs_any m hm W0).mono ?_
  rintro e w1 ⟨⟨vd, rfl, hD⟩, hb1⟩
  have hdl := digI_len m 18
  obtain ⟨gd, cd, rfl⟩ : ∃ g c, vd = .slice (some ⟨g, 0, none⟩) 18 c := by
    rcases hD.2 with ⟨_, h0⟩ | ⟨g, cap, cur, h0, _⟩
    · rw [hdl] at h0; cases h0
    · exact ⟨g, cap, by rw [h0, hdl]⟩
  have hL1 : OwnL w1 W0.heap.size [sR (.slice none 0 0) [], (.slice (some ⟨gd, 0, none⟩) 18 cd, 3, digI m 18)] := (OwnL.mk (rs := [(.slice (some ⟨gd, 0, none⟩) 18 cd, 3, digI m 18)]) (fun r hr => by rw [List.mem_singleton.1 hr]; exact hD) (List.pairwise_singleton _ _)).emptyS
  clear hD
  go_wp2
  go_loopw [8, 9] (fun ev kv wr => ∃ k : Nat, k ≤ 18 ∧ kv = .int .i64 k ∧ Below W0.heap.size W0 wr ∧ OwnL wr W0.heap.size [sR ev (enTo m sig k), (.slice (some ⟨gd, 0, none⟩) 18 cd, 3, digI m 18)] ∧ Hid (allDig (sig.take k) = true)) (fun _ kv _ => 18 - (intOf kv).toNat)
  case atStart => exact ⟨0, by omega, rfl, hb1, hL1, rfl⟩
  case round =>
    obtain ⟨k, hk, rfl, hbr, hLr, hTk⟩ := hrel
    have rr := row_next r0 hbr
    obtain ⟨f1, f2, f3⟩ := cells3 rr
    have hrl : w.heap.size < wr.heap.size := (Array.getElem?_eq_some_iff.1 rr).1
    by_cases hlt : k < 18
    · have hkl : k < sig.length := by rw [hl'.out]; exact hlt
      obtain ⟨b, off, rfl, hbl, hcell⟩ := (keepS hS hbr).get hkl
      have hxz := hz'.out sig[k] (List.getElem_mem hkl)
      have hxm := hide (List.getElem_mem hkl)
      have hgx := hide (getD_eq sig k hkl)
      have hTx := hide (allDig_take sig k hkl hTk.out)
      have hd15 := Dg.dig_le m k
      have hdi := hide (digI_get m 18 k hlt)
      have hdc := int_cell hLr.swap.head hdi.out
      have hgdl : gd < wr.heap.size := block_lt_of_cell hdc
      have hes := hide (enTo_succ m sig k)
      have hel := enTo_len m sig k
      rw [hgx.out] at hes
      generalize Dg.dig m k = d at *
      generalize sig[k] = x at *
      obtain ⟨D, hD⟩ : ∃ D : Nat, 15 - d = D := ⟨_, rfl⟩
      have hD15 : D ≤ 15 := by omega
      have e15 : (15 : Int) - (d : Int) = (D : Int) := by omega
      rw [hD] at hes
      clear hD
      generalize hC : Dg.chainB x D = C at *
      have HC := hide hC; clear hC
      generalize enTo m sig k = E at *
      have hk0 : (0 : Int) ≤ (k : Int) := by omega
      have hk1 : (k : Int) < 18 := by omega
      go_wp2_with fail
      cases hx : Dg.isB x with
      | false =>
        refine (ris_same x false hx (by omega) wr).mono ?_
        rintro e w2 ⟨rfl, rfl⟩
        have hRf : R = false := by
          rw [← HR.out, allDig_no sig x hxm.out hx]; rfl
        subst hRf
        clear HR hx
        go_wp2
        go_ret
        exact ⟨rfl, bnext hW hbr⟩
      | true =>
        have hT1 := hide (hTx.out hx)
        refine (ris_same x true hx (by omega) wr).mono ?_
        rintro e w2 ⟨rfl, rfl⟩
        clear hx hTx hxm
        go_wp2
        have hmx : Tryz.prog.follows .mixedOrders = true := by kernel_rfl
        have hHeld : (fun W : World => W.cell? ⟨w.heap.size, 1, none⟩ = some (.slice (some ⟨b, off, none⟩) 18 c) ∧ W.cell? ⟨b, off + k, none⟩ = some (.string x) ∧ W.cell? ⟨gd, k, none⟩ = some (.int .i64 (d : Int))) wr.drew := ⟨f2, hcell, hdc⟩
        refine wp_region_noPanic ?_
        refine wp_region_L (fun W : World => W.cell? ⟨w.heap.size, 1, none⟩ = some (.slice (some ⟨b, off, none⟩) 18 c) ∧ W.cell? ⟨b, off + k, none⟩ = some (.string x) ∧ W.cell? ⟨gd, k, none⟩ = some (.int .i64 (d : Int))) 13 hmx ?_
        refine wpAnyL_take (i := 0) (f0 := 16) (v := ?_) rfl (by decide +kernel) (by decide +kernel) (by decide +kernel) (by decide +kernel) (by decide +kernel) (fun _ _ _ h => h) (Or.inl ⟨by rfl, ?_⟩) hHeld ?_
        rotate_left
        · intro wS hS; obtain ⟨hS1, hS2, hS3⟩ := hS; go_simp; (try with_reducible rfl)
        simp only [Act.put, List.setIfInBounds_toArray]
        refine wpAnyL_take (i := 1) (f0 := 16) (v := ?_) rfl (by decide +kernel) (by decide +kernel) (by decide +kernel) (by decide +kernel) (by decide +kernel) (fun _ _ _ h => h) (Or.inl ⟨by rfl, ?_⟩) hHeld ?_
        rotate_left
        · intro wS hS; obtain ⟨hS1, hS2, hS3⟩ := hS; go_simp; (try with_reducible rfl)
        simp only [Act.put]
        refine wpAnyL_take (i := 2) (f0 := 16) (v := ?_) rfl (by decide +kernel) (by decide +kernel) (by decide +kernel) (by decide +kernel) (by decide +kernel) (fun _ _ _ h => h) (Or.inl ⟨by rfl, ?_⟩) hHeld ?_
        rotate_left
        · intro wS hS; obtain ⟨hS1, hS2, hS3⟩ := hS; go_simp; (try with_reducible rfl)
        simp only [Act.put]
        refine wpAnyL_take (i := 3) (f0 := 16) (v := ?_) rfl (by decide +kernel) (by decide +kernel) (by decide +kernel) (by decide +kernel) (by decide +kernel) (fun _ _ _ h => h) (Or.inl ⟨by rfl, ?_⟩) hHeld ?_
        rotate_left
        · intro wS hS; obtain ⟨hS1, hS2, hS3⟩ := hS; go_simp; (try with_reducible rfl)
        simp only [Act.put]
        refine wpAnyL_take (i := 4) (f0 := 16) (v := ?_) rfl (by decide +kernel) (by decide +kernel) (by decide +kernel) (by decide +kernel) (by decide +kernel) (fun _ _ _ h => h) (Or.inl ⟨by rfl, ?_⟩) hHeld ?_
        rotate_left
        · intro wS hS; obtain ⟨hS1, hS2, hS3⟩ := hS; go_simp; (try with_reducible rfl)
        simp only [Act.put]
        refine wpAnyL_take (i := 5) (f0 := 16) (v := ?_) rfl (by decide +kernel) (by decide +kernel) (by decide +kernel) (by decide +kernel) (by decide +kernel) (fun _ _ _ h => h) (Or.inl ⟨by rfl, ?_⟩) hHeld ?_
        rotate_left
        · intro wS hS; obtain ⟨hS1, hS2, hS3⟩ := hS; go_simp; (try with_reducible rfl)
        simp only [Act.put]
        refine wpAnyL_take (i := 6) (f0 := 16) (v := ?_) rfl (by decide +kernel) (by decide +kernel) (by decide +kernel) (by decide +kernel) (by decide +kernel) (fun _ _ _ h => h) (Or.inl ⟨by rfl, ?_⟩) hHeld ?_
        rotate_left
        · intro wS hS; obtain ⟨hS1, hS2, hS3⟩ := hS; go_simp; (try with_reducible rfl)
        simp only [Act.put]
        refine wpAnyL_take (i := 7) (f0 := 16) (v := ?_) rfl (by decide +kernel) (by decide +kernel) (by decide +kernel) (by decide +kernel) (by decide +kernel) (fun _ _ _ h => h) (Or.inl ⟨by rfl, ?_⟩) hHeld ?_
        rotate_left
        · intro wS hS; obtain ⟨hS1, hS2, hS3⟩ := hS; go_simp; (try with_reducible rfl)
        simp only [Act.put]
        refine wpAnyL_take (i := 8) (f0 := 16) (v := ?_) rfl (by decide +kernel) (by decide +kernel) (by decide +kernel) (by decide +kernel) (by decide +kernel) (fun _ _ _ h => h) (Or.inl ⟨by rfl, ?_⟩) hHeld ?_
        rotate_left
        · intro wS hS; obtain ⟨hS1, hS2, hS3⟩ := hS; go_simp; (try with_reducible rfl)
        simp only [Act.put]
        refine wpAnyL_take (i := 9) (f0 := 16) (v := ?_) rfl (by decide +kernel) (by decide +kernel) (by decide +kernel) (by decide +kernel) (by decide +kernel) (fun _ _ _ h => h) (Or.inl ⟨by rfl, ?_⟩) hHeld ?_
        rotate_left
        · intro wS hS; obtain ⟨hS1, hS2, hS3⟩ := hS; go_simp; (try with_reducible rfl)
        simp only [Act.put]
        refine wpAnyL_take (i := 10) (f0 := 16) (v := ?_) rfl (by decide +kernel) (by decide +kernel) (by decide +kernel) (by decide +kernel) (by decide +kernel) (fun _ _ _ h => h) (Or.inl ⟨by rfl, ?_⟩) hHeld ?_
        rotate_left
        · intro wS hS; obtain ⟨hS1, hS2, hS3⟩ := hS; go_simp; (try with_reducible rfl)
        simp only [Act.put]
        refine wpAnyL_one (i := 11) (by decide +kernel) (by rfl) (fun K hK => ?_)
        rw [if_pos (by rfl)]
        go_simp
        refine (rchain_of x _ D (IntWalk.i64_in (D : Int) (by omega)) C HC.out (by omega) (by omega) _).mono ?_
        rintro e w3 ⟨rfl, rfl⟩
        refine hK.out _ _ (Or.inr hHeld) ?_
        clear hK K
        try simp only [Act.put, List.setIfInBounds_toArray, List.set_cons_zero, List.set_cons_succ]
        have hLa : OwnL wr.drew W0.heap.size [sR _ E, (.slice (some ⟨gd, 0, none⟩) 18 cd, 3, digI m 18)] := hLr.below (Below.refl wr.heap.size wr).drew
        refine wpAnyL_one (i := 12) (by decide +kernel) (by rfl) (fun K hK => ?_)
        rw [if_pos (by rfl)]
        go_simp
        have hx := Below.news (Below.refl wr.drew.heap.size wr.drew) (.cells #[.string C] 9)
        have hHb : (fun W : World => W.cell? ⟨w.heap.size, 1, none⟩ = some (.slice (some ⟨b, off, none⟩) 18 c) ∧ W.cell? ⟨b, off + k, none⟩ = some (.string x) ∧ W.cell? ⟨gd, k, none⟩ = some (.int .i64 (d : Int))) (wr.drew.alloc (.cells #[.string C] 9)) := ⟨(hx.cell (block_lt_of_cell hHeld.1)).trans hHeld.1, (hx.cell (block_lt_of_cell hHeld.2.1)).trans hHeld.2.1, (hx.cell (block_lt_of_cell hHeld.2.2)).trans hHeld.2.2⟩
        refine hK.out _ _ (Or.inr hHb) ?_
        clear hK K
        try simp only [Act.put, List.setIfInBounds_toArray, List.set_cons_zero, List.set_cons_succ]
        refine wpAnyL_one (i := 13) (by decide +kernel) (by rfl) (fun K hK => ?_)
        rw [if_pos (by rfl)]
        refine wp_al (.tmp 48) (.tmp 60) 22 9 _ 16 (by rfl) Tryz.underlying22 strInfo rfl (by omega) W0.heap.size _ _ _ (by rfl) (hLa.below hx) _ 1 1 [.string C] (by rfl) rfl (Src.lit wr.drew #[.string C] 9 (fun u hu => by rw [List.mem_singleton.1 hu]; rfl)) (by rw [List.length_map]; omega) (Nat.le_trans hbr.size hx.size) ?_
        intro v5 w5 hL5 hb5
        rw [sR_snoc, ← hes.out] at hL5
        have hb6 := ((hbr.drew).trans (hx.mono hbr.size)).trans hb5
        refine hK.out _ _ (Or.inl (by decide +kernel)) ?_
        clear hK K
        try simp only [Act.put, List.setIfInBounds_toArray]
        refine wpAnyL_one (i := 14) (by decide +kernel) (by rfl) (fun K hK => ?_)
        rw [if_pos (by rfl)]
        go_simp
        refine hK.out _ _ (Or.inl (by decide +kernel)) ?_
        clear hK K
        try simp only [Act.put, List.setIfInBounds_toArray, List.set_cons_zero, List.set_cons_succ]
        refine wpAnyL_done (by decide +kernel) ?_ _
        refine NoPanic.normal ?_
        clear hHeld hHb f1 f2 f3 hcell hdc
        go_wp2
        go_roundw
        case rel => exact ⟨k + 1, by omega, by go_num, hb6, hL5, hT1⟩
        case measure => simp [intOf]; omega
    · obtain rfl : k = 18 := by omega
      rw [show ((18 : Nat) : Int) = (18 : Int) from rfl]
      have hes : OwnL wr W0.heap.size [sR u8 (Dg.endsB m sig), (.slice (some ⟨gd, 0, none⟩) 18 cd, 3, digI m 18)] := hLr
      have hAll : Hid (allDig sig = true) := by
        have h1 := hTk.out
        rw [List.take_of_length_le (by rw [hl'.out]; decide)] at h1
        exact h1
      have hel := hide (Dg.endsB_len m sig)
      have hez := hide (fun x (hx : x ∈ Dg.endsB m sig) => (Nat.le_trans (isB_ends m sig (allDig_16 hAll.out) x hx) (by decide) : x.size ≤ 1048576))
      generalize Dg.endsB m sig = ES at *
      obtain ⟨A1, c1, hv, hc1, hS1⟩ := OwnS.strs (l := ES) (OwnL.headS (l := ES) hes)
      rw [hel.out] at hv hc1
      subst hv
      rw [hAll.out, Bool.true_and] at HR
      obtain ⟨LB, hLB⟩ : ∃ LB, Dg.listB ES = LB := ⟨_, rfl⟩
      rw [hLB] at HR
      have hLz : LB.size = 16 := by rw [← hLB]; exact listB_size _
      have HLB := hide hLB
      clear hLB hLr hes hTk
      go_wp2
      go_loop [10] (fun jv => ∃ j : Nat, j ≤ n' ∧ jv = .int .i64 j ∧ Hid (allDig (path.take j) = true)) (fun jv => n' - (intOf jv).toNat)
      case atStart => exact ⟨0, by omega, rfl, rfl⟩
      case round =>
        obtain ⟨j, hj, rfl, hTj⟩ := hrel
        by_cases hlt2 : j < n'
        · have hjl : j < path.length := by rw [hl2'.out]; exact hlt2
          obtain ⟨b, off, rfl, hbl, hcell⟩ := (keepS hS2 hbr).get hjl
          have hxz := hz2'.out path[j] (List.getElem_mem hjl)
          have hxm := hide (List.getElem_mem hjl)
          have hTx := hide (allDig_take path j hjl hTj.out)
          generalize path[j] = x at *
          go_wp2_with fail
          cases hx : Dg.isB x with
          | false =>
            refine (ris_same x false hx (by omega) wr).mono ?_
            rintro e w2 ⟨rfl, rfl⟩
            have hRf : R = false := by
              rw [← HR.out, allDig_no path x hxm.out hx]; rfl
            subst hRf
            clear HR hx
            go_wp2
            go_ret
            exact ⟨rfl, bnext hW hbr⟩
          | true =>
            have hT1 := hide (hTx.out hx)
            refine (ris_same x true hx (by omega) wr).mono ?_
            rintro e w2 ⟨rfl, rfl⟩
            clear hx hTx hxm
            go_wp2
            go_round
            case rel => exact ⟨j + 1, by omega, by go_num, hT1⟩
            case measure => simp [intOf]; omega
        · obtain rfl : j = n' := by omega
          have hAp : Hid (allDig path = true) := by
            have h1 := hTj.out
            rw [List.take_of_length_le (by rw [hl2'.out]; exact Nat.le_refl _)] at h1
            exact h1
          rw [hAp.out, Bool.true_and] at HR
          clear hTj
          go_wp2
          have hmx : Tryz.prog.follows .mixedOrders = true := by kernel_rfl
          have hHeld : (fun W : World => W.cell? ⟨w.heap.size, 0, none⟩ = some (.int .i64 (i : Int)) ∧ W.cell? ⟨w.heap.size, 2, none⟩ = some (.slice A' j c')) wr.drew := ⟨f1, f3⟩
          refine wp_region_noPanic ?_
          refine wp_region_L (fun W : World => W.cell? ⟨w.heap.size, 0, none⟩ = some (.int .i64 (i : Int)) ∧ W.cell? ⟨w.heap.size, 2, none⟩ = some (.slice A' j c')) 13 hmx ?_
          refine wpAnyL_take (i := 0) (f0 := 16) (v := ?_) rfl (by decide +kernel) (by decide +kernel) (by decide +kernel) (by decide +kernel) (by decide +kernel) (fun _ _ _ h => h) (Or.inl ⟨by rfl, ?_⟩) hHeld ?_
          rotate_left
          · intro wS hS; obtain ⟨hS1, hS2⟩ := hS; go_simp; (try with_reducible rfl)
          simp only [Act.put, List.setIfInBounds_toArray]
          refine wpAnyL_take (i := 1) (f0 := 16) (v := ?_) rfl (by decide +kernel) (by decide +kernel) (by decide +kernel) (by decide +kernel) (by decide +kernel) (fun _ _ _ h => h) (Or.inl ⟨by rfl, ?_⟩) hHeld ?_
          rotate_left
          · intro wS hS; obtain ⟨hS1, hS2⟩ := hS; go_simp; (try with_reducible rfl)
          simp only [Act.put]
          refine wpAnyL_take (i := 2) (f0 := 16) (v := ?_) rfl (by decide +kernel) (by decide +kernel) (by decide +kernel) (by decide +kernel) (by decide +kernel) (fun _ _ _ h => h) (Or.inl ⟨by rfl, ?_⟩) hHeld ?_
          rotate_left
          · intro wS hS; obtain ⟨hS1, hS2⟩ := hS; go_simp; (try with_reducible rfl)
          simp only [Act.put]
          refine wpAnyL_take (i := 3) (f0 := 16) (v := ?_) rfl (by decide +kernel) (by decide +kernel) (by decide +kernel) (by decide +kernel) (by decide +kernel) (fun _ _ _ h => h) (Or.inl ⟨by rfl, ?_⟩) hHeld ?_
          rotate_left
          · intro wS hS; obtain ⟨hS1, hS2⟩ := hS; go_simp; (try with_reducible rfl)
          simp only [Act.put]
          refine wpAnyL_take (i := 5) (f0 := 16) (v := ?_) rfl (by decide +kernel) (by decide +kernel) (by decide +kernel) (by decide +kernel) (by decide +kernel) (fun _ _ _ h => h) (Or.inl ⟨by rfl, ?_⟩) hHeld ?_
          rotate_left
          · intro wS hS; obtain ⟨hS1, hS2⟩ := hS; go_simp; (try with_reducible rfl)
          simp only [Act.put]
          refine wpAnyL_take (i := 6) (f0 := 16) (v := ?_) rfl (by decide +kernel) (by decide +kernel) (by decide +kernel) (by decide +kernel) (by decide +kernel) (fun _ _ _ h => h) (Or.inl ⟨by rfl, ?_⟩) hHeld ?_
          rotate_left
          · intro wS hS; obtain ⟨hS1, hS2⟩ := hS; go_simp; (try with_reducible rfl)
          simp only [Act.put]
          refine wpAnyL_take (i := 7) (f0 := 16) (v := ?_) rfl (by decide +kernel) (by decide +kernel) (by decide +kernel) (by decide +kernel) (by decide +kernel) (fun _ _ _ h => h) (Or.inl ⟨by rfl, ?_⟩) hHeld ?_
          rotate_left
          · intro wS hS; obtain ⟨hS1, hS2⟩ := hS; go_simp; (try with_reducible rfl)
          simp only [Act.put]
          refine wpAnyL_take (i := 9) (f0 := 16) (v := ?_) rfl (by decide +kernel) (by decide +kernel) (by decide +kernel) (by decide +kernel) (by decide +kernel) (fun _ _ _ h => h) (Or.inl ⟨by rfl, ?_⟩) hHeld ?_
          rotate_left
          · intro wS hS; obtain ⟨hS1, hS2⟩ := hS; go_simp; (try with_reducible rfl)
          simp only [Act.put]
          refine wpAnyL_take (i := 10) (f0 := 16) (v := ?_) rfl (by decide +kernel) (by decide +kernel) (by decide +kernel) (by decide +kernel) (by decide +kernel) (fun _ _ _ h => h) (Or.inl ⟨by rfl, ?_⟩) hHeld ?_
          rotate_left
          · intro wS hS; obtain ⟨hS1, hS2⟩ := hS; go_simp; (try with_reducible rfl)
          simp only [Act.put]
          refine wpAnyL_one (i := 4) (by decide +kernel) (by rfl) (fun K hK => ?_)
          rw [if_pos (by rfl)]
          go_simp
          refine (rpower_any j (by omega) N HN.out _).mono ?_
          rintro e w3 ⟨rfl, rfl⟩
          refine hK.out _ _ (Or.inr hHeld) ?_
          clear hK K
          try simp only [Act.put, List.setIfInBounds_toArray, List.set_cons_zero, List.set_cons_succ]
          refine wpAnyL_one (i := 8) (by decide +kernel) (by rfl) (fun K hK => ?_)
          rw [if_pos (by rfl)]
          go_simp
          refine (rlist_of A1 c1 18 ES hel.out LB HLB.out _ (by rw [hel.out]; decide) (joined_16 ES (by rw [hel.out]; decide) hez.out) hez.out (keepS hS1 (Below.refl wr.heap.size wr).drew)).mono ?_
          rintro e w3 ⟨rfl, hb3⟩
          have hb3 := below_undrew hb3
          have hH3 : (fun W : World => W.cell? ⟨w.heap.size, 0, none⟩ = some (.int .i64 (i : Int)) ∧ W.cell? ⟨w.heap.size, 2, none⟩ = some (.slice A' j c')) w3 := ⟨(hb3.cell hrl).trans f1, (hb3.cell hrl).trans f3⟩
          refine hK.out _ _ (Or.inr hH3) ?_
          clear hK K
          try simp only [Act.put, List.setIfInBounds_toArray, List.set_cons_zero, List.set_cons_succ]
          refine wpAnyL_one (i := 11) (by decide +kernel) (by rfl) (fun K hK => ?_)
          rw [if_pos (by rfl)]
          go_simp
          refine (rcheck_of p N i LB A' c' j path R HR.out _ hl2'.out (by omega) hc' hz2'.out (by omega) (keepS (keepS hS2 hbr) hb3)).mono ?_
          rintro e w4 ⟨rfl, hb4⟩
          have hH4 : (fun W : World => W.cell? ⟨w.heap.size, 0, none⟩ = some (.int .i64 (i : Int)) ∧ W.cell? ⟨w.heap.size, 2, none⟩ = some (.slice A' j c')) w4 := ⟨(hb4.cell (Nat.lt_of_lt_of_le hrl hb3.size)).trans hH3.1, (hb4.cell (Nat.lt_of_lt_of_le hrl hb3.size)).trans hH3.2⟩
          refine hK.out _ _ (Or.inr hH4) ?_
          clear hK K
          try simp only [Act.put, List.setIfInBounds_toArray, List.set_cons_zero, List.set_cons_succ]
          refine wpAnyL_take (i := 12) (f0 := 16) (v := ?_) rfl (by decide +kernel) (by decide +kernel) (by decide +kernel) (by decide +kernel) (by decide +kernel) (fun _ _ _ h => h) (Or.inl ⟨by rfl, ?_⟩) hH4 ?_
          rotate_left
          · intro wS hS; obtain ⟨hS1, hS2⟩ := hS; go_simp; (try with_reducible rfl)
          simp only [Act.put, List.setIfInBounds_toArray]
          refine wpAnyL_done (by decide +kernel) ?_ _
          refine NoPanic.normal ?_
          go_wp2
          go_ret
          exact ⟨rfl, bnext (bnext (bnext hW hbr) hb3) hb4⟩
theorem rverify_of (p m : ByteArray) (i : Int) (A A' : Option Addr) (n n' c c' : Nat) (sig path : List ByteArray) (w : World) (hm : m.size ≤ 4611686018427387904) (hl : sig.length = n) (hz : ∀ s ∈ sig, s.size ≤ 1048576) (hS : Strs w w.heap.size A sig)
    (hl2 : path.length = n') (hz2 : ∀ s ∈ path, s.size ≤ 1048576) (hS2 : Strs w w.heap.size A' path) (hc' : n' ≤ c') (R : Bool) (hR : verifyB p m i sig path = R) :
    Calls Tryz.prog 13 #[.string p, .string m, .agg #[.int .i64 i, .slice A n c, .slice A' n' c']] w fun e w' => e = .returned (.bool R) ∧ Below w.heap.size w w' := by
  by_cases h1 : n = 18
  · subst h1
    by_cases h2 : n' ≤ 8
    · by_cases h3 : i < 0
      · have hRf : R = false := by
          rw [← hR]
          exact verifyB_not fun hh => by omega
        subst hRf
        exact rverify_c p m i A A' n' c c' w h2 h3
      · obtain ⟨k, rfl⟩ := Int.eq_ofNat_of_zero_le (Int.not_lt.1 h3)
        obtain ⟨N, hN⟩ : ∃ N, 2 ^ n' = N := ⟨_, rfl⟩
        by_cases h4 : k < N
        · rw [verifyB_main p m k sig path N hl (by omega) (by omega) (by rw [hl2]; exact hN) (by omega)] at hR
          exact rverify_e p m k A A' n' c c' N sig path w hm h2 hN h4 hl hz hS hl2 hz2 hS2 hc' R hR
        · have hRf : R = false := by
            rw [← hR]
            exact verifyB_not fun hh => by
              have := hh.2.2.2.1
              rw [hl2, hN] at this
              omega
          subst hRf
          exact rverify_d p m k A A' n' c c' N w h2 hN (by omega) (by omega)
    · have hRf : R = false := by
        rw [← hR]
        exact verifyB_not fun hh => by omega
      subst hRf
      exact rverify_b p m i A A' n' c c' w (by omega)
  · have hRf : R = false := by
      rw [← hR]
      exact verifyB_not fun hh => by omega
    subst hRf
    exact rverify_a p m i A A' n n' c c' w h1
end Go.Proofs.YtadmidkpchonhaaGreatDoor
/- SealMatchesReference. No conditions but those that each theorem states. -/
namespace Go.Proofs.YtadmidkpchonhaaGreatDoor
open Go Go.RowKit Go.Sort
theorem public_both (s : ByteArray) (h : Int) (hs : s.size ≤ 300) : ∃ (P : ByteArray) (E : Int), P.size ≤ 16 ∧
    (∀ w, Env w → Calls Tryz.prog 7 #[.string s, .int .i64 h] w fun e w' => e = .returned (.tuple #[.string P, .int .i64 E]) ∧ Below w.heap.size w w') ∧
    ∀ w, Calls Tryz.prog 8 #[.string s, .int .i64 h] w fun e w' => e = .returned (.tuple #[.string P, .int .i64 E]) ∧ Below w.heap.size w w' := by
  by_cases hb : h < 0 ∨ 8 < h
  · exact ⟨⟨#[]⟩, 1, by decide, fun w _ => public_bad s h hb w, fun w => (rpublic_bad s h hb w).mono fun e w' ⟨h1, h2⟩ => ⟨h1, by subst h2; exact Below.refl _ _⟩⟩
  · obtain ⟨k, rfl⟩ := Int.eq_ofNat_of_zero_le (by omega : 0 ≤ h)
    exact ⟨Dg.publicB s k, 0, Nat.le_of_eq (Dg.isB_len (isB_publicB s k)), fun w he => public_any s k (by omega) (by omega) _ rfl w he, fun w => rpublic_any s k (by omega) (by omega) _ rfl w⟩
def SignOut (I E : Int) (n k : Nat) (SG PT : List ByteArray) (w : World) (e : Ending) (w' : World) : Prop :=
  ∃ A c A' c', e = .returned (.tuple #[.agg #[.int .i64 I, .slice A n c, .slice A' k c'], .int .i64 E]) ∧ n ≤ c ∧ k ≤ c' ∧ Strs w' w'.heap.size A SG ∧ Strs w' w'.heap.size A' PT ∧ Below w.heap.size w w'
theorem sign_both (s m : ByteArray) (h i : Int) (hs : s.size ≤ 300) (hm : m.size ≤ 300) : ∃ (I E : Int) (n k : Nat) (SG PT : List ByteArray), SG.length = n ∧ PT.length = k ∧ n ≤ 18 ∧ k ≤ 8 ∧
    (∀ w, Env w → Calls Tryz.prog 9 #[.string s, .int .i64 h, .int .i64 i, .string m] w (SignOut I E n k SG PT w)) ∧
    ∀ w, Calls Tryz.prog 10 #[.string s, .int .i64 h, .int .i64 i, .string m] w (SignOut I E n k SG PT w) := by
  have bad : ∀ {w : World} {e : Ending} {w' : World}, e = .returned (.tuple #[.agg #[.int .i64 0, .slice none 0 0, .slice none 0 0], .int .i64 1]) ∧ Below w.heap.size w w' → SignOut 0 1 0 0 [] [] w e w' := fun ⟨h1, h2⟩ =>
    ⟨none, 0, none, 0, h1, Nat.le_refl _, Nat.le_refl _, Strs.nil _ _ _, Strs.nil _ _ _, h2⟩
  by_cases hb : h < 0 ∨ 8 < h
  · exact ⟨0, 1, 0, 0, [], [], rfl, rfl, by decide, by decide, fun w _ => (sign_bad_h s m h i hb w).mono fun _ _ h => bad h, fun w => (rsign_bad s m h i w (2 ^ h.toNat) (fun _ _ => rfl) (by omega)).mono fun _ _ h => bad h⟩
  · obtain ⟨k, rfl⟩ := Int.eq_ofNat_of_zero_le (by omega : 0 ≤ h)
    obtain ⟨n, hn⟩ : ∃ n, 2 ^ k = n := ⟨_, rfl⟩
    by_cases hi : i < 0 ∨ (n : Int) ≤ i
    · exact ⟨0, 1, 0, 0, [], [], rfl, rfl, by decide, by decide, fun w _ => (sign_bad_i s m k n i (by omega) hn hi w).mono fun _ _ h => bad h, fun w => (rsign_bad s m k i w n (fun _ _ => by simpa using hn) (by omega)).mono fun _ _ h => bad h⟩
    · obtain ⟨j, rfl⟩ := Int.eq_ofNat_of_zero_le (by omega : 0 ≤ i)
      have hj : j < 2 ^ k := by rw [hn]; omega
      exact ⟨j, 0, 18, k, Dg.sigB s j m, Dg.sealPath s k j, Dg.sigB_len _ _ _, Dg.sealPath_len _ _ _ hj, by decide, by omega,
        fun w he => (sign_of s m k j k j rfl rfl (by omega) (by omega) (by omega) hj _ _ rfl rfl w he).mono fun _ _ h => h,
        fun w => (rsign_of s m k j k j rfl rfl (by omega) (by omega) (by omega) hj _ _ rfl rfl w).mono fun _ _ h => h⟩
set_option maxRecDepth 100000 in
set_option maxHeartbeats 8000000 in
theorem law_sref (s : ByteArray) (h i : Int) (m p : ByteArray) (J : Int) (A : Option Addr) (c : Nat) (SG : List ByteArray) (A' : Option Addr) (c' : Nat) (PT : List ByteArray) (w : World) (he : Env w) (hs : s.size ≤ 9223372036854775807) (hm : m.size ≤ 9223372036854775807) (hp : p.size ≤ 9223372036854775807)
    (hl : SG.length ≤ 9223372036854775807) (hls : ∀ s ∈ SG, s.size ≤ 9223372036854775807) (hS : Strs w w.heap.size A SG) (hc : SG.length ≤ c) (hl2 : PT.length ≤ 9223372036854775807) (hls2 : ∀ s ∈ PT, s.size ≤ 9223372036854775807) (hS' : Strs w w.heap.size A' PT) (hc' : PT.length ≤ c') :
    Calls Tryz.prog 3 #[.string s, .int .i64 h, .int .i64 i, .string m, .string p, .agg #[.int .i64 J, .slice A SG.length c, .slice A' PT.length c']] w fun e w' => e = .returned (.bool true) ∧ Below w.heap.size w w' := by
  have hm2 := hide (mem3 (a := s) (b := m) (c := p) (n := 9223372036854775807) hs hm hp)
  have Hls := hide hls; have Hls2 := hide hls2; clear hls hls2 hs hm hp
  obtain ⟨ns, hns⟩ : ∃ ns, SG.length = ns := ⟨_, rfl⟩
  obtain ⟨n, hn⟩ : ∃ n, PT.length = n := ⟨_, rfl⟩
  rw [hns] at hl hc ⊢
  rw [hn] at hl2 hc' ⊢
  have Hns := hide hns; have Hn := hide hn; clear hns hn
  go_enter Tryz.func3, Tryz.ntmps3
  go_wp2_with fail
  have hW := Below.news (Below.refl w.heap.size w) (.cells #[.int .i64 J, .slice A ns c, .slice A' n c'] 24)
  have r0 := heap_alloc_new w (.cells #[.int .i64 J, .slice A ns c, .slice A' n c'] 24)
  replace hS := keepS hS hW
  replace hS' := keepS hS' hW
  replace he := he.next hW
  have hb := hW
  generalize w.alloc (.cells #[.int .i64 J, .slice A ns c, .slice A' n c'] 24) = W0 at *
  obtain ⟨q, hq⟩ : ∃ q, w.heap.size = q := ⟨_, rfl⟩
  rw [hq] at r0 ⊢
  have Hq := hide hq; clear hq hW
  refine (head3_of W0 he).mono ?_
  rintro e w1 ⟨rfl, hb1⟩
  replace he := he.next hb1
  replace hS := keepS hS hb1
  replace hS' := keepS hS' hb1
  replace r0 := row_next r0 hb1
  replace hb := bnext hb hb1; clear hb1
  go_wp2_with fail
  cases hsh : shortB [s, m, p] with
  | false =>
    refine (short3_new [s, m, p] _ _ 3 _ rfl (by decide) hm2.out false hsh _ rfl _ rfl).mono ?_
    rintro e w2 ⟨rfl, rfl⟩
    go_wp2
    go_ret
    exact ⟨rfl, hb.alloc hb.size _⟩
  | true =>
    obtain ⟨zs, zm, zp⟩ := short3 hsh
    have hsh' := hide hsh; clear hsh
    refine (short3_new [s, m, p] _ _ 3 _ rfl (by decide) hm2.out true hsh'.out _ rfl _ rfl).mono ?_
    rintro e w2 ⟨rfl, rfl⟩
    obtain ⟨f1, f2, f3⟩ := cells3 r0
    have hql1 : q < w1.heap.size := block_lt_of_cell f1
    have hS2 := keepS hS (Below.news (Below.refl _ _) (.cells #[.string s, .string m, .string p] 9))
    have hS2' := keepS hS' (Below.news (Below.refl _ _) (.cells #[.string s, .string m, .string p] 9))
    go_wp2_with fail
    cases hf : fewS SG PT with
    | false =>
      refine (rfew3_of J A A' c c' ns n SG PT false hf _ Hns.out Hn.out hl hl2 Hls.out Hls2.out hS2 hS2').mono ?_
      rintro e w3 ⟨rfl, hb3⟩
      go_wp2
      go_ret
      exact ⟨rfl, bnextA hb hb3⟩
    | true =>
      obtain ⟨⟨fs1, fs2⟩, fp1, fp2⟩ := (fewS_iff SG PT).1 hf
      have zsg := hide (mem_le (n := 1048576) fs2 (by decide))
      have zpt := hide (mem_le (n := 1048576) fp2 (by decide))
      rw [Hns.out] at fs1
      rw [Hn.out] at fp1
      have hf' := hide hf; clear hf fs2 fp2
      refine (rfew3_of J A A' c c' ns n SG PT true hf'.out _ Hns.out Hn.out hl hl2 Hls.out Hls2.out hS2 hS2').mono ?_
      rintro e w3 ⟨rfl, hb3⟩
      have hb3' := bnextA (Below.refl _ _) hb3
      replace he := he.next hb3'
      replace hS := keepS hS hb3'
      replace hS' := keepS hS' hb3'
      replace r0 := row_next r0 hb3'
      replace hb := bnext hb hb3'
      clear hb3 hb3' f1 f2 f3 hS2 hS2'
      by_cases hh : 3 < h ∧ h ≤ 8
      · have d1 : decide (3 < h) = true := decide_eq_true hh.1
        have d2 : decide (h ≤ 8) = true := decide_eq_true hh.2
        clear hh
        go_wp2
        go_ret
        exact ⟨rfl, hb⟩
      obtain ⟨P, E, hPz, hP1, hP2⟩ := public_both s h zs
      obtain ⟨I2, E2, n2, k2, SG2, PT2, l1, l2, b1, b2, hG1, hG2⟩ := sign_both s m h i zs zm
      have HP1 := hide hP1; have HP2 := hide hP2; have HG1 := hide hG1; have HG2 := hide hG2; have L1 := hide l1; have L2 := hide l2
      clear hP1 hP2 hG1 hG2 l1 l2
      have V1 := hide (fun W (a : Env W) (b : Strs W W.heap.size A SG) (d : Strs W W.heap.size A' PT) => verify_of p m J A A' ns n c c' SG PT W a (by omega) Hns.out (mem_le zsg.out (by decide)) b Hn.out (mem_le zpt.out (by decide)) d hc (verifyB p m J SG PT) rfl)
      have V2 := hide (fun W (b : Strs W W.heap.size A SG) (d : Strs W W.heap.size A' PT) => rverify_of p m J A A' ns n c c' SG PT W (by omega) Hns.out zsg.out b Hn.out zpt.out d hc' (verifyB p m J SG PT) rfl)
      have V3 := hide (fun W (a : Env W) (b : Strs W W.heap.size A SG) (d : Strs W W.heap.size A' PT) => verify_of P m J A A' ns n c c' SG PT W a (by omega) Hns.out (mem_le zsg.out (by decide)) b Hn.out (mem_le zpt.out (by decide)) d hc (verifyB P m J SG PT) rfl)
      have V4 := hide (fun W (b : Strs W W.heap.size A SG) (d : Strs W W.heap.size A' PT) => rverify_of P m J A A' ns n c c' SG PT W (by omega) Hns.out zsg.out b Hn.out zpt.out d hc' (verifyB P m J SG PT) rfl)
      generalize verifyB p m J SG PT = B1 at *
      generalize verifyB P m J SG PT = B2 at *
      have hcase : (decide (3 < h) = true ∧ decide (h ≤ 8) = false) ∨ (decide (3 < h) = false ∧ decide (3 < h) = false) := by
        by_cases h3 : 3 < h
        · exact Or.inl ⟨decide_eq_true h3, decide_eq_false (by omega)⟩
        · exact Or.inr ⟨decide_eq_false h3, decide_eq_false h3⟩
      clear hh
      rcases hcase with ⟨d1, d2⟩ | ⟨d1, d2⟩
      all_goals
        go_wp2_with fail
        refine (HP1.out _ he).mono ?_
        rintro e w4 ⟨rfl, hb4⟩
        have he4 := he.next hb4
        have hS4 := keepS hS hb4
        have hS4' := keepS hS' hb4
        have r4 := row_next r0 hb4
        have hb4' := bnext hb hb4
        clear hb4
        go_wp2_with fail
        refine (HP2.out _).mono ?_
        rintro e w5 ⟨rfl, hb5⟩
        have he5 := he4.next hb5
        have hS5 := keepS hS4 hb5
        have hS5' := keepS hS4' hb5
        have r5 := row_next r4 hb5
        have hb5' := bnext hb4' hb5
        clear hb5
        go_wp2_with fail
        refine (HG1.out _ he5).mono ?_
        rintro e w6 ⟨X1, x1, Y1, y1, rfl, hx1, hy1, hX1, hY1, hb6⟩
        have hn6 := Below.news (Below.refl w6.heap.size w6) (.cells #[.int .i64 I2, .slice X1 n2 x1, .slice Y1 k2 y1] 24)
        have hb6' := bnext hb6 hn6
        have he6 := he5.next hb6'
        have hS6 := keepS hS5 hb6'
        have hS6' := keepS hS5' hb6'
        have r6 := row_next r5 hb6'
        have hb7' := bnext hb5' hb6'
        replace hX1 := keepS hX1 hn6
        replace hY1 := keepS hY1 hn6
        have u6 := heap_alloc_new w6 (.cells #[.int .i64 I2, .slice X1 n2 x1, .slice Y1 k2 y1] 24)
        clear hb6 hb6' hn6
        go_wp2_with fail
        generalize w6.alloc (.cells #[.int .i64 I2, .slice X1 n2 x1, .slice Y1 k2 y1] 24) = w7 at *
        generalize w6.heap.size = z6 at *
        refine (HG2.out _).mono ?_
        rintro e w8 ⟨X2, x2, Y2, y2, rfl, hx2, hy2, hX2, hY2, hb8⟩
        have hn8 := Below.news (Below.refl w8.heap.size w8) (.cells #[.int .i64 I2, .slice X2 n2 x2, .slice Y2 k2 y2] 24)
        have hb8' := bnext hb8 hn8
        have he8 := he6.next hb8'
        have hS8 := keepS hS6 hb8'
        have hS8' := keepS hS6' hb8'
        have r8 := row_next r6 hb8'
        have hb9 := bnext hb7' hb8'
        replace hX2 := keepS hX2 hn8
        replace hY2 := keepS hY2 hn8
        replace hX1 := keepS hX1 hb8'
        replace hY1 := keepS hY1 hb8'
        replace u6 := row_next u6 hb8'
        obtain ⟨g1, g2, g3⟩ := cells3 u6
        clear hb8 hb8' hn8
        have hE : ((E : Int) == E) = true := beq_self_eq_true E
        have hE2 : ((E2 : Int) == E2) = true := beq_self_eq_true E2
        go_wp2_with fail
        refine (rsame3_of I2 I2 X1 X2 Y1 Y2 x1 x2 y1 y2 n2 n2 k2 k2 SG2 SG2 PT2 PT2 true ((sameS_iff _ _ _ _ _ _).2 ⟨rfl, rfl, rfl⟩) _ L1.out L1.out L2.out L2.out (by omega) (by omega) (by omega) (by omega) hX1 hX2 hY1 hY2).mono ?_
        rintro e w9 ⟨rfl, hb10⟩
        have he9 := he8.next hb10
        have hS9 := keepS hS8 hb10
        have hS9' := keepS hS8' hb10
        have r9 := row_next r8 hb10
        have hb11 := bnext hb9 hb10
        obtain ⟨f1, f2, f3⟩ := cells3 r9
        have hqw : q < w9.heap.size := block_lt_of_cell f1
        clear hb10 g1 g2 g3 u6 hX1 hX2 hY1 hY2 r8 r6 r5 r4 hb9 hb7' hb5' hb4' hS8 hS8' hS6 hS6' hS5 hS5' hS4 hS4' he4 he5 he6 he8
        go_wp2
        have hmx : Tryz.prog.follows .mixedOrders = true := by kernel_rfl
        have hHeld : (fun W' : World => W'.cell? ⟨q, 0, none⟩ = some (.int .i64 J) ∧ W'.cell? ⟨q, 1, none⟩ = some (.slice A ns c) ∧ W'.cell? ⟨q, 2, none⟩ = some (.slice A' n c')) w9.drew := ⟨f1, f2, f3⟩
        refine wp_region_noPanic ?_
        refine wp_region_L (fun W' : World => W'.cell? ⟨q, 0, none⟩ = some (.int .i64 J) ∧ W'.cell? ⟨q, 1, none⟩ = some (.slice A ns c) ∧ W'.cell? ⟨q, 2, none⟩ = some (.slice A' n c')) 27 hmx ?_
        refine wpAnyL_take (i := 0) (f0 := 30) (v := ?_) rfl (by decide +kernel) (by decide +kernel) (by decide +kernel) (by decide +kernel) (by decide +kernel) (fun _ _ _ h => h) (Or.inl ⟨by rfl, ?_⟩) hHeld ?_
        rotate_left
        · intro wS hS; obtain ⟨hS1, hS2, hS3⟩ := hS; go_simp; (try with_reducible rfl)
        simp only [Act.put, List.getElem_toArray, List.getElem_cons_zero, List.setIfInBounds_toArray, List.set_cons_succ, List.set_cons_zero]
        refine wpAnyL_take (i := 1) (f0 := 30) (v := ?_) rfl (by decide +kernel) (by decide +kernel) (by decide +kernel) (by decide +kernel) (by decide +kernel) (fun _ _ _ h => h) (Or.inl ⟨by rfl, ?_⟩) hHeld ?_
        rotate_left
        · intro wS hS; obtain ⟨hS1, hS2, hS3⟩ := hS; go_simp; (try with_reducible rfl)
        simp only [Act.put, List.getElem_toArray, List.getElem_cons_succ, List.getElem_cons_zero, List.setIfInBounds_toArray, List.set_cons_succ, List.set_cons_zero]
        refine wpAnyL_take (i := 2) (f0 := 30) (v := ?_) rfl (by decide +kernel) (by decide +kernel) (by decide +kernel) (by decide +kernel) (by decide +kernel) (fun _ _ _ h => h) (Or.inl ⟨by rfl, ?_⟩) hHeld ?_
        rotate_left
        · intro wS hS; obtain ⟨hS1, hS2, hS3⟩ := hS; go_simp; (try with_reducible rfl)
        simp only [Act.put, List.getElem_toArray, List.getElem_cons_succ, List.getElem_cons_zero, List.setIfInBounds_toArray, List.set_cons_succ, List.set_cons_zero]
        refine wpAnyL_take (i := 3) (f0 := 30) (v := ?_) rfl (by decide +kernel) (by decide +kernel) (by decide +kernel) (by decide +kernel) (by decide +kernel) (fun _ _ _ h => h) (Or.inl ⟨by rfl, ?_⟩) hHeld ?_
        rotate_left
        · intro wS hS; obtain ⟨hS1, hS2, hS3⟩ := hS; go_simp; (try with_reducible rfl)
        simp only [Act.put, List.getElem_toArray, List.getElem_cons_succ, List.getElem_cons_zero, List.setIfInBounds_toArray, List.set_cons_succ, List.set_cons_zero]
        refine wpAnyL_take (i := 4) (f0 := 30) (v := ?_) rfl (by decide +kernel) (by decide +kernel) (by decide +kernel) (by decide +kernel) (by decide +kernel) (fun _ _ _ h => h) (Or.inl ⟨by rfl, ?_⟩) hHeld ?_
        rotate_left
        · intro wS hS; obtain ⟨hS1, hS2, hS3⟩ := hS; go_simp; (try with_reducible rfl)
        simp only [Act.put, List.getElem_toArray, List.getElem_cons_succ, List.getElem_cons_zero, List.setIfInBounds_toArray, List.set_cons_succ, List.set_cons_zero]
        refine wpAnyL_take (i := 5) (f0 := 30) (v := ?_) rfl (by decide +kernel) (by decide +kernel) (by decide +kernel) (by decide +kernel) (by decide +kernel) (fun _ _ _ h => h) (Or.inl ⟨by rfl, ?_⟩) hHeld ?_
        rotate_left
        · intro wS hS; obtain ⟨hS1, hS2, hS3⟩ := hS; go_simp; (try with_reducible rfl)
        simp only [Act.put, List.getElem_toArray, List.getElem_cons_succ, List.getElem_cons_zero, List.setIfInBounds_toArray, List.set_cons_succ, List.set_cons_zero]
        refine wpAnyL_take (i := 6) (f0 := 30) (v := ?_) rfl (by decide +kernel) (by decide +kernel) (by decide +kernel) (by decide +kernel) (by decide +kernel) (fun _ _ _ h => h) (Or.inl ⟨by rfl, ?_⟩) hHeld ?_
        rotate_left
        · intro wS hS; obtain ⟨hS1, hS2, hS3⟩ := hS; go_simp; (try with_reducible rfl)
        simp only [Act.put, List.getElem_toArray, List.getElem_cons_succ, List.getElem_cons_zero, List.setIfInBounds_toArray, List.set_cons_succ, List.set_cons_zero]
        refine wpAnyL_take (i := 7) (f0 := 30) (v := ?_) rfl (by decide +kernel) (by decide +kernel) (by decide +kernel) (by decide +kernel) (by decide +kernel) (fun _ _ _ h => h) (Or.inl ⟨by rfl, ?_⟩) hHeld ?_
        rotate_left
        · intro wS hS; obtain ⟨hS1, hS2, hS3⟩ := hS; go_simp; (try with_reducible rfl)
        simp only [Act.put, List.getElem_toArray, List.getElem_cons_succ, List.getElem_cons_zero, List.setIfInBounds_toArray, List.set_cons_succ, List.set_cons_zero]
        refine wpAnyL_take (i := 9) (f0 := 30) (v := ?_) rfl (by decide +kernel) (by decide +kernel) (by decide +kernel) (by decide +kernel) (by decide +kernel) (fun _ _ _ h => h) (Or.inl ⟨by rfl, ?_⟩) hHeld ?_
        rotate_left
        · intro wS hS; obtain ⟨hS1, hS2, hS3⟩ := hS; go_simp; (try with_reducible rfl)
        simp only [Act.put, List.getElem_toArray, List.getElem_cons_succ, List.getElem_cons_zero, List.setIfInBounds_toArray, List.set_cons_succ, List.set_cons_zero]
        refine wpAnyL_take (i := 10) (f0 := 30) (v := ?_) rfl (by decide +kernel) (by decide +kernel) (by decide +kernel) (by decide +kernel) (by decide +kernel) (fun _ _ _ h => h) (Or.inl ⟨by rfl, ?_⟩) hHeld ?_
        rotate_left
        · intro wS hS; obtain ⟨hS1, hS2, hS3⟩ := hS; go_simp; (try with_reducible rfl)
        simp only [Act.put, List.getElem_toArray, List.getElem_cons_succ, List.getElem_cons_zero, List.setIfInBounds_toArray, List.set_cons_succ, List.set_cons_zero]
        refine wpAnyL_take (i := 11) (f0 := 30) (v := ?_) rfl (by decide +kernel) (by decide +kernel) (by decide +kernel) (by decide +kernel) (by decide +kernel) (fun _ _ _ h => h) (Or.inl ⟨by rfl, ?_⟩) hHeld ?_
        rotate_left
        · intro wS hS; obtain ⟨hS1, hS2, hS3⟩ := hS; go_simp; (try with_reducible rfl)
        simp only [Act.put, List.getElem_toArray, List.getElem_cons_succ, List.getElem_cons_zero, List.setIfInBounds_toArray, List.set_cons_succ, List.set_cons_zero]
        refine wpAnyL_one (i := 8) (by decide +kernel) (by rfl) (fun K hK => ?_)
        rw [if_pos (by rfl)]
        go_simp
        refine (V1.out _ (he9.next ((Below.refl w9.heap.size w9).drew)) (keepS hS9 ((Below.refl w9.heap.size w9).drew)) (keepS hS9' ((Below.refl w9.heap.size w9).drew))).mono ?_
        rintro e v1 ⟨rfl, hz1⟩
        have hy1 : Below w9.heap.size w9 v1 := bnext ((Below.refl w9.heap.size w9).drew) hz1
        have hH1 : (fun W' : World => W'.cell? ⟨q, 0, none⟩ = some (.int .i64 J) ∧ W'.cell? ⟨q, 1, none⟩ = some (.slice A ns c) ∧ W'.cell? ⟨q, 2, none⟩ = some (.slice A' n c')) v1 := ⟨(hy1.cell hqw).trans f1, (hy1.cell hqw).trans f2, (hy1.cell hqw).trans f3⟩
        refine hK.out _ _ (Or.inr hH1) ?_
        clear hK K
        try simp only [Act.put, List.getElem_toArray, List.getElem_cons_succ, List.getElem_cons_zero, List.setIfInBounds_toArray, List.set_cons_succ, List.set_cons_zero]
        refine wpAnyL_one (i := 12) (by decide +kernel) (by rfl) (fun K hK => ?_)
        rw [if_pos (by rfl)]
        go_simp
        refine (V2.out _ (keepS hS9 (hy1)) (keepS hS9' (hy1))).mono ?_
        rintro e v2 ⟨rfl, hz2⟩
        have hy2 : Below w9.heap.size w9 v2 := bnext (hy1) hz2
        have hH2 : (fun W' : World => W'.cell? ⟨q, 0, none⟩ = some (.int .i64 J) ∧ W'.cell? ⟨q, 1, none⟩ = some (.slice A ns c) ∧ W'.cell? ⟨q, 2, none⟩ = some (.slice A' n c')) v2 := ⟨(hy2.cell hqw).trans f1, (hy2.cell hqw).trans f2, (hy2.cell hqw).trans f3⟩
        refine hK.out _ _ (Or.inr hH2) ?_
        clear hK K
        try simp only [Act.put, List.getElem_toArray, List.getElem_cons_succ, List.getElem_cons_zero, List.setIfInBounds_toArray, List.set_cons_succ, List.set_cons_zero]
        refine wpAnyL_take (i := 13) (f0 := 30) (v := ?_) rfl (by decide +kernel) (by decide +kernel) (by decide +kernel) (by decide +kernel) (by decide +kernel) (fun _ _ _ h => h) (Or.inl ⟨by rfl, ?_⟩) hH2 ?_
        rotate_left
        · intro wS hS; obtain ⟨hS1, hS2, hS3⟩ := hS; go_simp; (try with_reducible rfl)
        simp only [Act.put, List.getElem_toArray, List.getElem_cons_succ, List.getElem_cons_zero, List.setIfInBounds_toArray, List.set_cons_succ, List.set_cons_zero]
        refine wpAnyL_take (i := 14) (f0 := 30) (v := ?_) rfl (by decide +kernel) (by decide +kernel) (by decide +kernel) (by decide +kernel) (by decide +kernel) (fun _ _ _ h => h) (Or.inl ⟨by rfl, ?_⟩) hH2 ?_
        rotate_left
        · intro wS hS; obtain ⟨hS1, hS2, hS3⟩ := hS; go_simp; (try with_reducible rfl)
        simp only [Act.put, List.getElem_toArray, List.getElem_cons_succ, List.getElem_cons_zero, List.setIfInBounds_toArray, List.set_cons_succ, List.set_cons_zero]
        refine wpAnyL_take (i := 15) (f0 := 30) (v := ?_) rfl (by decide +kernel) (by decide +kernel) (by decide +kernel) (by decide +kernel) (by decide +kernel) (fun _ _ _ h => h) (Or.inl ⟨by rfl, ?_⟩) hH2 ?_
        rotate_left
        · intro wS hS; obtain ⟨hS1, hS2, hS3⟩ := hS; go_simp; (try with_reducible rfl)
        simp only [Act.put, List.getElem_toArray, List.getElem_cons_succ, List.getElem_cons_zero, List.setIfInBounds_toArray, List.set_cons_succ, List.set_cons_zero]
        refine wpAnyL_take (i := 16) (f0 := 30) (v := ?_) rfl (by decide +kernel) (by decide +kernel) (by decide +kernel) (by decide +kernel) (by decide +kernel) (fun _ _ _ h => h) (Or.inl ⟨by rfl, ?_⟩) hH2 ?_
        rotate_left
        · intro wS hS; obtain ⟨hS1, hS2, hS3⟩ := hS; go_simp; (try with_reducible rfl)
        simp only [Act.put, List.getElem_toArray, List.getElem_cons_succ, List.getElem_cons_zero, List.setIfInBounds_toArray, List.set_cons_succ, List.set_cons_zero]
        refine wpAnyL_take (i := 17) (f0 := 30) (v := ?_) rfl (by decide +kernel) (by decide +kernel) (by decide +kernel) (by decide +kernel) (by decide +kernel) (fun _ _ _ h => h) (Or.inl ⟨by rfl, ?_⟩) hH2 ?_
        rotate_left
        · intro wS hS; obtain ⟨hS1, hS2, hS3⟩ := hS; go_simp; (try with_reducible rfl)
        simp only [Act.put, List.getElem_toArray, List.getElem_cons_succ, List.getElem_cons_zero, List.setIfInBounds_toArray, List.set_cons_succ, List.set_cons_zero]
        refine wpAnyL_take (i := 18) (f0 := 30) (v := ?_) rfl (by decide +kernel) (by decide +kernel) (by decide +kernel) (by decide +kernel) (by decide +kernel) (fun _ _ _ h => h) (Or.inl ⟨by rfl, ?_⟩) hH2 ?_
        rotate_left
        · intro wS hS; obtain ⟨hS1, hS2, hS3⟩ := hS; go_simp; (try with_reducible rfl)
        simp only [Act.put, List.getElem_toArray, List.getElem_cons_succ, List.getElem_cons_zero, List.setIfInBounds_toArray, List.set_cons_succ, List.set_cons_zero]
        refine wpAnyL_take (i := 20) (f0 := 30) (v := ?_) rfl (by decide +kernel) (by decide +kernel) (by decide +kernel) (by decide +kernel) (by decide +kernel) (fun _ _ _ h => h) (Or.inl ⟨by rfl, ?_⟩) hH2 ?_
        rotate_left
        · intro wS hS; obtain ⟨hS1, hS2, hS3⟩ := hS; go_simp; (try with_reducible rfl)
        simp only [Act.put, List.getElem_toArray, List.getElem_cons_succ, List.getElem_cons_zero, List.setIfInBounds_toArray, List.set_cons_succ, List.set_cons_zero]
        refine wpAnyL_take (i := 21) (f0 := 30) (v := ?_) rfl (by decide +kernel) (by decide +kernel) (by decide +kernel) (by decide +kernel) (by decide +kernel) (fun _ _ _ h => h) (Or.inl ⟨by rfl, ?_⟩) hH2 ?_
        rotate_left
        · intro wS hS; obtain ⟨hS1, hS2, hS3⟩ := hS; go_simp; (try with_reducible rfl)
        simp only [Act.put, List.getElem_toArray, List.getElem_cons_succ, List.getElem_cons_zero, List.setIfInBounds_toArray, List.set_cons_succ, List.set_cons_zero]
        refine wpAnyL_take (i := 22) (f0 := 30) (v := ?_) rfl (by decide +kernel) (by decide +kernel) (by decide +kernel) (by decide +kernel) (by decide +kernel) (fun _ _ _ h => h) (Or.inl ⟨by rfl, ?_⟩) hH2 ?_
        rotate_left
        · intro wS hS; obtain ⟨hS1, hS2, hS3⟩ := hS; go_simp; (try with_reducible rfl)
        simp only [Act.put, List.getElem_toArray, List.getElem_cons_succ, List.getElem_cons_zero, List.setIfInBounds_toArray, List.set_cons_succ, List.set_cons_zero]
        refine wpAnyL_one (i := 19) (by decide +kernel) (by rfl) (fun K hK => ?_)
        rw [if_pos (by rfl)]
        go_simp
        refine (V3.out _ (he9.next (hy2)) (keepS hS9 (hy2)) (keepS hS9' (hy2))).mono ?_
        rintro e v3 ⟨rfl, hz3⟩
        have hy3 : Below w9.heap.size w9 v3 := bnext (hy2) hz3
        have hH3 : (fun W' : World => W'.cell? ⟨q, 0, none⟩ = some (.int .i64 J) ∧ W'.cell? ⟨q, 1, none⟩ = some (.slice A ns c) ∧ W'.cell? ⟨q, 2, none⟩ = some (.slice A' n c')) v3 := ⟨(hy3.cell hqw).trans f1, (hy3.cell hqw).trans f2, (hy3.cell hqw).trans f3⟩
        refine hK.out _ _ (Or.inr hH3) ?_
        clear hK K
        try simp only [Act.put, List.getElem_toArray, List.getElem_cons_succ, List.getElem_cons_zero, List.setIfInBounds_toArray, List.set_cons_succ, List.set_cons_zero]
        refine wpAnyL_one (i := 23) (by decide +kernel) (by rfl) (fun K hK => ?_)
        rw [if_pos (by rfl)]
        go_simp
        refine (V4.out _ (keepS hS9 (hy3)) (keepS hS9' (hy3))).mono ?_
        rintro e v4 ⟨rfl, hz4⟩
        have hy4 : Below w9.heap.size w9 v4 := bnext (hy3) hz4
        have hH4 : (fun W' : World => W'.cell? ⟨q, 0, none⟩ = some (.int .i64 J) ∧ W'.cell? ⟨q, 1, none⟩ = some (.slice A ns c) ∧ W'.cell? ⟨q, 2, none⟩ = some (.slice A' n c')) v4 := ⟨(hy4.cell hqw).trans f1, (hy4.cell hqw).trans f2, (hy4.cell hqw).trans f3⟩
        refine hK.out _ _ (Or.inr hH4) ?_
        clear hK K
        try simp only [Act.put, List.getElem_toArray, List.getElem_cons_succ, List.getElem_cons_zero, List.setIfInBounds_toArray, List.set_cons_succ, List.set_cons_zero]
        refine wpAnyL_take (i := 24) (f0 := 30) (v := ?_) rfl (by decide +kernel) (by decide +kernel) (by decide +kernel) (by decide +kernel) (by decide +kernel) (fun _ _ _ h => h) (Or.inl ⟨by rfl, ?_⟩) hH4 ?_
        rotate_left
        · intro wS hS; obtain ⟨hS1, hS2, hS3⟩ := hS; go_simp; (try with_reducible rfl)
        simp only [Act.put, List.getElem_toArray, List.getElem_cons_succ, List.getElem_cons_zero, List.setIfInBounds_toArray, List.set_cons_succ, List.set_cons_zero]
        refine wpAnyL_take (i := 25) (f0 := 30) (v := ?_) rfl (by decide +kernel) (by decide +kernel) (by decide +kernel) (by decide +kernel) (by decide +kernel) (fun _ _ _ h => h) (Or.inl ⟨by rfl, ?_⟩) hH4 ?_
        rotate_left
        · intro wS hS; obtain ⟨hS1, hS2, hS3⟩ := hS; go_simp; (try with_reducible rfl)
        simp only [Act.put, List.getElem_toArray, List.getElem_cons_succ, List.getElem_cons_zero, List.setIfInBounds_toArray, List.set_cons_succ, List.set_cons_zero]
        refine wpAnyL_take (i := 26) (f0 := 30) (v := ?_) rfl (by decide +kernel) (by decide +kernel) (by decide +kernel) (by decide +kernel) (by decide +kernel) (fun _ _ _ h => h) (Or.inl ⟨by rfl, ?_⟩) hH4 ?_
        rotate_left
        · intro wS hS; obtain ⟨hS1, hS2, hS3⟩ := hS; go_simp; (try with_reducible rfl)
        simp only [Act.put, List.getElem_toArray, List.getElem_cons_succ, List.getElem_cons_zero, List.setIfInBounds_toArray, List.set_cons_succ, List.set_cons_zero]
        refine wpAnyL_done (by decide +kernel) ?_ _
        refine NoPanic.normal ?_
        go_wp2
        go_ret
        exact ⟨rfl, Hq.out ▸ bnext hb11 hy4⟩
end Go.Proofs.YtadmidkpchonhaaGreatDoor
/- A seal that came in, opened. No conditions. -/
namespace Go.Proofs.YtadmidkpchonhaaGreatDoor
open Go Go.RowKit Go.ChangeShapes Go.WideShapes Go.ChangeAt Go.WideMaps Go.WideElems Go.Joins
variable {H : Type} {enc : TypeId × Value → H}
theorem cellsStr : Tryz.prog.cellsOf 9 = 1 := by kernel_rfl
set_option maxRecDepth 100000 in
/-- A field that is a slice of strings. -/
theorem field_strs {W : World} {v : Value} {n : Nat} {y : DataW H × List MemPlace} (hf : DataW.trod enc Tryz.prog W 0 (fun _ => true) true n 22 [v] = some y) :
    ∃ (A : Option Addr) (c : Nat) (l : List ByteArray), v = .slice A l.length c ∧ l.length ≤ 9223372036854775807 ∧ (∀ s ∈ l, s.size ≤ 9223372036854775807) ∧ Strs W W.heap.size A l ∧ l.length ≤ c := by
  rcases open_strings Tryz.underlying22 Tryz.underlying9 (by kernel_rfl) hf with ⟨hcs, _⟩ | ⟨a, len', cap', ss, hcs, _, hl, hm, hz, _, hcell, hws⟩
  · simp only [List.cons.injEq, and_true] at hcs
    subst hcs
    exact ⟨none, 0, [], rfl, by simp, by simp, Strs.nil _ _ _, by simp⟩
  · simp only [List.cons.injEq, and_true] at hcs
    subst hcs
    simp only [if_true] at hz
    unfold maxLen at hm
    have htl : (ss.take len').length = len' := by rw [List.length_take, hz]; omega
    refine ⟨some a, cap', ss.take len', by rw [htl], by rw [htl]; omega, fun s hs => hws s (List.mem_of_mem_take hs), ⟨fun h0 => ?_⟩, by rw [htl]; exact hl⟩
    rw [htl] at h0
    have h00 : a.add 0 = a := by unfold Addr.add; rw [if_pos rfl]
    obtain ⟨e, hb⟩ := addr_of_cell (h00 ▸ hcell 0 (by omega))
    refine ⟨a.block, a.off, by rw [← e], hb, fun j s hj => ?_⟩
    have hjl : j < len' := by
      have := (List.getElem?_eq_some_iff.1 hj).1
      rw [htl] at this; exact this
    have h1 := hcell j (by omega)
    rw [List.getElem?_take, if_pos hjl] at hj
    rw [List.getD_eq_getElem?_getD, hj] at h1
    have e2 : a.add j = ⟨a.block, a.off + j, none⟩ := by
      conv => lhs; rw [e]
      exact add_plain _ _ _
    rw [← e2]
    exact h1
set_option maxRecDepth 100000 in
/-- A seal. -/
theorem open_seal {W : World} {v : Value} {d : DataW H} {p : List MemPlace} {base : Nat} (hv : Value.okWide Tryz.prog W .any base 24 v) (h : DataW.Trod enc Tryz.prog W 0 (fun _ => true) true 24 v d p) :
    ∃ (i : Int) (A : Option Addr) (c : Nat) (l : List ByteArray) (A' : Option Addr) (c' : Nat) (l' : List ByteArray), v = .agg #[.int .i64 i, .slice A l.length c, .slice A' l'.length c'] ∧ (Lit.int .i64 i).wf = true ∧
      l.length ≤ 9223372036854775807 ∧ (∀ s ∈ l, s.size ≤ 9223372036854775807) ∧ Strs W W.heap.size A l ∧ l.length ≤ c ∧
      l'.length ≤ 9223372036854775807 ∧ (∀ s ∈ l', s.size ≤ 9223372036854775807) ∧ Strs W W.heap.size A' l' ∧ l'.length ≤ c' := by
  obtain ⟨v0, v1, v2, y0, y1, y2, n, rfl, rfl, rfl, h0, h1, h2⟩ := open_agg3 Tryz.underlying24 (by kernel_rfl) (by kernel_rfl) hv h
  obtain ⟨i, e0, _, wi⟩ := DataW.trod_int Tryz.underlying3 h0
  simp only [List.cons.injEq, and_true] at e0
  subst e0
  obtain ⟨A, c, l, rfl, a1, a2, a3, a4⟩ := field_strs h1
  obtain ⟨A', c', l', rfl, b1, b2, b3, b4⟩ := field_strs h2
  exact ⟨i, A, c, l, A', c', l', rfl, wi, a1, a2, a3, a4, b1, b2, b3, b4⟩
end Go.Proofs.YtadmidkpchonhaaGreatDoor

