/- Walks and laws of this seat, several texts in one: S6, S7, S8, SV, Shown, S9, S10, SH, SL1, OwnL, S11, S12, Post, Open. No conditions but those that each theorem states. -/
import Derived.Test.YtadmidkpchonhaaGreatDoorMA2
import Derived.Deep.RegionHeld3
import Derived.Below
import Derived.ChangeSame
import Derived.ProofKit
import Derived.OpenShut
import Derived.LaidMore
import Derived.Lay
import Derived.SevenTiedAt
import Derived.Stop.Joined
import Derived.SliceStrings
/- Sign of package seal, walked. -/
namespace Go.Proofs.YtadmidkpchonhaaGreatDoor
open Go Go.RowKit Go.Sort
attribute [local go_sem] Oper.semAt_some
set_option maxRecDepth 100000 in
set_option maxHeartbeats 1000000 in
theorem sign_any (s m : ByteArray) (h i : Nat) (hs : s.size ≤ 1073741824) (hm : m.size ≤ 9223372036854775807) (hh : h ≤ 8) (hi : i < 2 ^ h) (w : World) (he : Env w) :
    Calls Tryz.prog 9 #[.string s, .int .i64 h, .int .i64 i, .string m] w (SealOut s m h i w) := by
  have hpl0 := hide (Dg.sealPath_len s h i hi)
  have h8 := pow_le8 h hh
  have hw := pow_wrap h (2 ^ h) rfl (by omega)
  generalize hn : 2 ^ h = n at *
  have d1 : decide ((h : Int) < 0) = false := decide_eq_false (by omega)
  have d2 : decide (8 < (h : Int)) = false := decide_eq_false (by omega)
  have d3 : decide ((i : Int) < 0) = false := decide_eq_false (by omega)
  have d4 : decide ((n : Int) ≤ (i : Int)) = false := decide_eq_false (by omega)
  have d5 : decide (n ≤ i) = false := decide_eq_false (by omega)
  refine (callsIn_wide (n := 5)).1 ?_
  refine callsIn_of_wp_marks Tryz.func9 rfl trivial ?_ rfl
  simp only [Tryz.ntmps9, List.size_toArray, List.length_cons, List.length_nil, Nat.reduceAdd, Nat.reduceSub, Array.replicate_succ, Array.replicate_zero, List.push_toArray, List.append_toArray, List.nil_append, List.cons_append]
  refine wpIn_wide.2 ?_
  go_wp2
  go_quiet (fail)
  go_wp2_with (go_at_call 18; refine (sdigits_any _ _).mono ?_; rintro e w' ⟨rfl, rfl⟩)
  generalize hW5 : World.alloc _ (.cells #[.string m] 9) = W5
  obtain ⟨w2, q1, q2, q3, q4, q5, hI, q6, q7⟩ := sign_setup w _ _ _ _ nq (i : Int) W5 hW5.symm
  have hc5 : W5.cell? ⟨w.heap.size + 4, 0, none⟩ = some (.string m) := by rw [cell_of_row _ _ _ _ _ (0, 0) q7]; rfl
  refine (wpIn_wide (n := 5)).1 ?_
  refine wpIn_rangeFunc_ownG (n := 5) rfl (by omega) (gf := 46) (lb := #[.pointer (some ⟨w.heap.size + 4, 0, none⟩)]) rfl trivial (enters_of Tryz.func46 (by kernel_rfl) rfl)
    (digits_stops 4 (by omega) m hm (w.heap.size + 4) W5 (by omega) hc5) (fun _ _ => trivial) (fun _ _ _ _ _ _ _ _ => trivial) (Below.refl _ _) (fun _ => rfl)
    (fun pre W => SignInv w2 (w.heap.size + 3) (w.heap.size + 4) i (sigTo s i pre) W) (fun _ _ _ => False)
    (SignInv.own w2 _ _ _ _ _ (by omega)) (fun _ _ _ _ _ hs _ _ => hs) hI ?a1 ?assign ?body ?done ?stop
  case assign =>
    intro l x W K hK
    simp only [encD]
    gi_wp2
    exact hK
  case body =>
    rintro l pre ⟨⟨k, d⟩, hk, hd⟩ W ⟨⟨v, hv, hO⟩, hB⟩ hlt
    have hk : k < 18 := hk
    have hd : d ≤ 15 := hd
    have hcs : W.cell? ⟨w.heap.size, 0, none⟩ = some (.string s) := by rw [hB.cell (p := ⟨w.heap.size, 0, none⟩) (by show w.heap.size < _; omega), cell_of_row _ _ _ _ _ (0, 0) q3]; rfl
    have hci : W.cell? ⟨w.heap.size + 1, 0, none⟩ = some (.int .i64 (i : Int)) := by rw [hB.cell (p := ⟨w.heap.size + 1, 0, none⟩) (by show w.heap.size + 1 < _; omega), cell_of_row _ _ _ _ _ (0, 0) q4]; rfl
    have hco : W.cell? ⟨w.heap.size + 3, 1, none⟩ = some v := by rw [cell_of_row _ _ _ _ _ (0, 0) hv]; rfl
    have hco : W.cell? ⟨w.heap.size + 1 + 1 + 1, 1, none⟩ = some v := hco
    have hfo : W.frozen? ⟨w.heap.size + 1 + 1 + 1, 1, none⟩ = false := frozen_of_row _ _ _ _ _ hv
    have hlB : w.heap.size + 3 < W.heap.size := (Array.getElem?_eq_some_iff.1 hv).1
    have heW : Env W := he.next (q2.trans (hB.mono (by omega)))
    have hmx : Tryz.prog.follows .mixedOrders = true := by kernel_rfl
    have hst := Dg.startB_sz s i k
    generalize hS : Dg.startB s i k = S0 at *
    have HS := hide hS; clear hS
    generalize hC : Dg.chainB S0 d = C0 at *
    have HC := hide hC; clear hC
    have hmin : Hid ((min (d : Int) 1000).toNat = d) := by unfold Hid; omega
    gi_wp2
    have hHeld : (fun W' : World => W'.cell? ⟨w.heap.size, 0, none⟩ = some (.string s) ∧ W'.cell? ⟨w.heap.size + 1, 0, none⟩ = some (.int .i64 (i : Int)) ∧ W'.cell? ⟨w.heap.size + 1 + 1 + 1, 1, none⟩ = some v) W.drew := ⟨hcs, hci, hco⟩
    refine wpIn_region_L (fun W' => W'.cell? ⟨w.heap.size, 0, none⟩ = some (.string s) ∧ W'.cell? ⟨w.heap.size + 1, 0, none⟩ = some (.int .i64 (i : Int)) ∧ W'.cell? ⟨w.heap.size + 1 + 1 + 1, 1, none⟩ = some v) 11 hmx (by kernel_rfl) (fun ⟨_, _, h⟩ => h) ?_
    refine wpAnyL_take (i := 0) (f0 := 12) (v := ?_) rfl (by decide +kernel) (by decide +kernel) (by decide +kernel) (by decide +kernel) (by decide +kernel) (fun _ _ _ h => h) (Or.inl ⟨by rfl, ?_⟩) hHeld ?_
    rotate_left
    · intro wS hS; obtain ⟨hS1, hS2, hS3⟩ := hS; go_simp; (try with_reducible rfl)
    simp only [Act.put, List.setIfInBounds_toArray]
    refine wpAnyL_take (i := 1) (f0 := 12) (v := ?_) rfl (by decide +kernel) (by decide +kernel) (by decide +kernel) (by decide +kernel) (by decide +kernel) (fun _ _ _ h => h) (Or.inl ⟨by rfl, ?_⟩) hHeld ?_
    rotate_left
    · intro wS hS; obtain ⟨hS1, hS2, hS3⟩ := hS; go_simp; (try with_reducible rfl)
    simp only [Act.put]
    refine wpAnyL_take (i := 2) (f0 := 12) (v := ?_) rfl (by decide +kernel) (by decide +kernel) (by decide +kernel) (by decide +kernel) (by decide +kernel) (fun _ _ _ h => h) (Or.inl ⟨by rfl, ?_⟩) hHeld ?_
    rotate_left
    · intro wS hS; obtain ⟨hS1, hS2, hS3⟩ := hS; go_simp; (try with_reducible rfl)
    simp only [Act.put]
    refine wpAnyL_take (i := 3) (f0 := 12) (v := ?_) rfl (by decide +kernel) (by decide +kernel) (by decide +kernel) (by decide +kernel) (by decide +kernel) (fun _ _ _ h => h) (Or.inl ⟨by rfl, ?_⟩) hHeld ?_
    rotate_left
    · intro wS hS; obtain ⟨hS1, hS2, hS3⟩ := hS; go_simp; (try with_reducible rfl)
    simp only [Act.put]
    refine wpAnyL_take (i := 4) (f0 := 12) (v := ?_) rfl (by decide +kernel) (by decide +kernel) (by decide +kernel) (by decide +kernel) (by decide +kernel) (fun _ _ _ h => h) (Or.inl ⟨by rfl, ?_⟩) hHeld ?_
    rotate_left
    · intro wS hS; obtain ⟨hS1, hS2, hS3⟩ := hS; go_simp; (try with_reducible rfl)
    simp only [Act.put]
    refine wpAnyL_take (i := 6) (f0 := 12) (v := ?_) rfl (by decide +kernel) (by decide +kernel) (by decide +kernel) (by decide +kernel) (by decide +kernel) (fun _ _ _ h => h) (Or.inl ⟨by rfl, ?_⟩) hHeld ?_
    rotate_left
    · intro wS hS; obtain ⟨hS1, hS2, hS3⟩ := hS; go_simp; (try with_reducible rfl)
    simp only [Act.put]
    refine wpAnyL_one (i := 5) (by decide +kernel) (by rfl) (fun K hK => ?_)
    rw [if_pos (by rfl)]
    go_simp
    refine (start_any s i k hs (by omega) (by omega) S0 HS.out _ (heW.next (Below.refl _ _).drew)).mono ?_
    rintro e w1 ⟨rfl, hb1⟩
    have hs1 : W.heap.size ≤ w1.heap.size := hb1.size
    have hX : (fun W' : World => W'.cell? ⟨w.heap.size, 0, none⟩ = some (.string s) ∧ W'.cell? ⟨w.heap.size + 1, 0, none⟩ = some (.int .i64 (i : Int)) ∧ W'.cell? ⟨w.heap.size + 1 + 1 + 1, 1, none⟩ = some v) w1 := ⟨(hb1.cell (by simp <;> omega)).trans hHeld.1, (hb1.cell (by simp <;> omega)).trans hHeld.2.1, (hb1.cell (by simp <;> omega)).trans hHeld.2.2⟩
    clear hHeld
    have hHeld := hX; clear hX
    refine hK.out _ _ (Or.inr hHeld) ?_
    clear hK K
    try simp only [Act.put, List.setIfInBounds_toArray, List.set_cons_zero, List.set_cons_succ]
    refine wpAnyL_one (i := 7) (by decide +kernel) (by rfl) (fun K hK => ?_)
    rw [if_pos (by rfl)]
    go_simp
    refine (chain_of S0 d d hmin.out C0 HC.out (by omega) _).mono ?_
    rintro e w3 ⟨rfl, hb3⟩
    have hs3 := hb3.size
    have hX : (fun W' : World => W'.cell? ⟨w.heap.size, 0, none⟩ = some (.string s) ∧ W'.cell? ⟨w.heap.size + 1, 0, none⟩ = some (.int .i64 (i : Int)) ∧ W'.cell? ⟨w.heap.size + 1 + 1 + 1, 1, none⟩ = some v) w3 := ⟨(hb3.cell (by simp <;> omega)).trans hHeld.1, (hb3.cell (by simp <;> omega)).trans hHeld.2.1, (hb3.cell (by simp <;> omega)).trans hHeld.2.2⟩
    clear hHeld
    have hHeld := hX; clear hX
    refine hK.out _ _ (Or.inr hHeld) ?_
    clear hK K
    try simp only [Act.put, List.setIfInBounds_toArray, List.set_cons_zero, List.set_cons_succ]
    refine wpAnyL_one (i := 8) (by decide +kernel) (by rfl) (fun K hK => ?_)
    rw [if_pos (by rfl)]
    go_simp
    have hba : Below w3.heap.size w3 (w3.alloc (.cells #[.string C0] 9)) := (Below.refl _ _).alloc (Nat.le_refl _) _
    have hOa : OwnS (w3.alloc (.cells #[.string C0] 9)) (w.heap.size + 4) v (sigTo s i pre) := OwnV.alloc ((OwnS.below (w := W.drew) hO hb1).below hb3) _
    have hsa : (w3.alloc (.cells #[.string C0] 9)).heap.size = w3.heap.size + 1 := by simp
    have hSa := Strs.new w3 [C0] #[.string C0] 9 rfl
    have hfa : (w3.alloc (.cells #[.string C0] 9)).heap[w.heap.size + 3]? = some (.cells #[.int .i64 i, v, .slice none 0 0] 24 (0, 0)) := (hba.block _ (by omega)).trans ((hb3.block _ (by omega)).trans ((hb1.block _ (by simp <;> omega)).trans hv))
    have hX : (fun W' : World => W'.cell? ⟨w.heap.size, 0, none⟩ = some (.string s) ∧ W'.cell? ⟨w.heap.size + 1, 0, none⟩ = some (.int .i64 (i : Int)) ∧ W'.cell? ⟨w.heap.size + 1 + 1 + 1, 1, none⟩ = some v) (w3.alloc (.cells #[.string C0] 9)) := ⟨(hba.cell (by simp <;> omega)).trans hHeld.1, (hba.cell (by simp <;> omega)).trans hHeld.2.1, (hba.cell (by simp <;> omega)).trans hHeld.2.2⟩
    clear hHeld
    have hHeld := hX; clear hX
    refine hK.out _ _ (Or.inr hHeld) ?_
    generalize hwa : w3.alloc (.cells #[.string C0] 9) = wa at *
    clear hK K
    try simp only [Act.put, List.setIfInBounds_toArray, List.set_cons_zero, List.set_cons_succ]
    refine wpAnyL_one (i := 9) (by decide +kernel) (by rfl) (fun K hK => ?_)
    rw [if_pos (by rfl)]
    refine wp_ad (.tmp 37) (.tmp 44) (by rfl) (w.heap.size + 4) _ v (sigTo s i pre) [C0] (by rfl) hOa (some ⟨w3.heap.size, 0, none⟩) 1 1 rfl (by rfl) hSa (by rw [sigTo, List.length_map]; omega) (by omega) ?_
    intro v9 w9 hO9 hb9 hg9
    obtain ⟨g9, c9, rfl, hg9b, hg9l⟩ := OwnS.full hO9 (by simp)
    have hX : (fun W' : World => W'.cell? ⟨w.heap.size, 0, none⟩ = some (.string s) ∧ W'.cell? ⟨w.heap.size + 1, 0, none⟩ = some (.int .i64 (i : Int)) ∧ W'.cell? ⟨w.heap.size + 1 + 1 + 1, 1, none⟩ = some v) w9 := ⟨(hb9.cell (by simp <;> omega)).trans hHeld.1, (hb9.cell (by simp <;> omega)).trans hHeld.2.1, (hb9.cell (by simp <;> omega)).trans hHeld.2.2⟩
    clear hHeld
    have hHeld := hX; clear hX
    refine hK.out _ _ (Or.inr hHeld) ?_
    clear hK K
    try simp only [Act.put, List.setIfInBounds_toArray]
    refine wpAnyL_take (i := 10) (f0 := 12) (v := ?_) rfl (by decide +kernel) (by decide +kernel) (by decide +kernel) (by decide +kernel) (by decide +kernel) (fun _ _ _ h => h) (Or.inl ⟨by rfl, ?_⟩) hHeld ?_
    rotate_left
    · intro wS hS; obtain ⟨hS1, hS2, hS3⟩ := hS; go_simp; (try with_reducible rfl)
    simp only [Act.put]
    refine wpAnyL_one (i := 11) (by decide +kernel) (by rfl) (fun K hK => ?_)
    rw [if_pos (by rfl)]
    have hc9 : w9.cell? ⟨w.heap.size + 1 + 1 + 1, 1, none⟩ = some v := hHeld.2.2
    have hf9 : w9.frozen? ⟨w.heap.size + 1 + 1 + 1, 1, none⟩ = false := frozen_of_row _ _ _ _ _ ((hb9.block (w.heap.size + 3) (by omega)).trans hfa)
    clear hHeld
    go_simp
    refine hK.out _ _ (Or.inl (by decide +kernel)) ?_
    clear hK K
    try simp only [Act.put, List.setIfInBounds_toArray, List.set_cons_zero, List.set_cons_succ]
    refine wpAnyL_done (by decide +kernel) ?_ _
    gi_wp2
    have hbT : Below W.heap.size W wa := by
      subst hwa
      exact (bnext (below_undrew hb1) hb3).alloc (bnext (below_undrew hb1) hb3).size _
    have hf9 : w9.heap[w.heap.size + 3]? = some (.cells #[.int .i64 i, v, .slice none 0 0] 24 (0, 0)) := (hb9.block _ (by omega)).trans hfa
    refine ⟨((keeps_below hbT).trans ((keeps_own hOa hg9).trans (KeepsOthers.setCell _ _ _))).from _, trivial, ?_⟩
    have hR := SignInv.round hB ((hbT.mono (by omega)).trans (hb9.mono (by omega))) (by omega) hf9 hO9
    have e : sigTo s i (pre ++ [⟨(k, d), ⟨hk, hd⟩⟩]) = sigTo s i pre ++ [C0] := by
      rw [sigTo_snoc]
      show sigTo s i pre ++ [Dg.chainB (Dg.startB s i k) d] = _
      rw [HS.out, HC.out]
    rw [show (sigTo s i pre ++ [C0]).length = (sigTo s i pre).length + 1 from by simp] at hR
    show SignInv w2 (w.heap.size + 3) (w.heap.size + 4) i (sigTo s i (pre ++ [⟨(k, d), ⟨hk, hd⟩⟩])) _
    rw [e]
    exact hR
  case done =>
    rintro D xs W hD hxs ⟨⟨v, hv, hO⟩, hB⟩ hK
    rw [sigTo_all s i m xs hxs] at hO
    have hsl := Dg.sigB_len s i m
    obtain ⟨Av, cv, rfl, hcv, hSv⟩ := hO.strs
    rw [hsl] at hv hcv
    have hsl' := hide hsl; clear hsl
    have hcs : W.cell? ⟨w.heap.size, 0, none⟩ = some (.string s) := by rw [hB.cell (p := ⟨w.heap.size, 0, none⟩) (by show w.heap.size < _; omega), cell_of_row _ _ _ _ _ (0, 0) q3]; rfl
    have hci : W.cell? ⟨w.heap.size + 1, 0, none⟩ = some (.int .i64 (i : Int)) := by rw [hB.cell (p := ⟨w.heap.size + 1, 0, none⟩) (by show w.heap.size + 1 < _; omega), cell_of_row _ _ _ _ _ (0, 0) q4]; rfl
    have hlB : w.heap.size + 3 < W.heap.size := (Array.getElem?_eq_some_iff.1 hv).1
    have heW : Env W := he.next (q2.trans (hB.mono (by omega)))
    have hmx : Tryz.prog.follows .mixedOrders = true := by kernel_rfl
    have hkl := Dg.keysB_len s h
    have hks := Dg.keysB_size s h
    rw [hn] at hkl
    have HP := hide (show Dg.sealPath s h i = Dg.path (Dg.keysB s h) i from rfl)
    have HKS := hide hks; clear hks
    have hkl' := hide hkl; clear hkl
    go_wp2
    have hHeld : (fun W' : World => W'.cell? ⟨w.heap.size, 0, none⟩ = some (.string s) ∧ W'.cell? ⟨w.heap.size + 1, 0, none⟩ = some (.int .i64 (i : Int))) W.drew := ⟨hcs, hci⟩
    refine wp_region_noPanic ?_
    refine wp_region_L (fun W' : World => W'.cell? ⟨w.heap.size, 0, none⟩ = some (.string s) ∧ W'.cell? ⟨w.heap.size + 1, 0, none⟩ = some (.int .i64 (i : Int))) 10 hmx ?_
    refine wpAnyL_take (i := 0) (f0 := 12) (v := ?_) rfl (by decide +kernel) (by decide +kernel) (by decide +kernel) (by decide +kernel) (by decide +kernel) (fun _ _ _ h => h) (Or.inl ⟨by rfl, ?_⟩) hHeld ?_
    rotate_left
    · intro wS hS; obtain ⟨hS1, hS2⟩ := hS; go_simp; (try with_reducible rfl)
    simp only [Act.put, List.setIfInBounds_toArray]
    refine wpAnyL_take (i := 1) (f0 := 12) (v := ?_) rfl (by decide +kernel) (by decide +kernel) (by decide +kernel) (by decide +kernel) (by decide +kernel) (fun _ _ _ h => h) (Or.inl ⟨by rfl, ?_⟩) hHeld ?_
    rotate_left
    · intro wS hS; obtain ⟨hS1, hS2⟩ := hS; go_simp; (try with_reducible rfl)
    simp only [Act.put]
    refine wpAnyL_take (i := 3) (f0 := 12) (v := ?_) rfl (by decide +kernel) (by decide +kernel) (by decide +kernel) (by decide +kernel) (by decide +kernel) (fun _ _ _ h => h) (Or.inl ⟨by rfl, ?_⟩) hHeld ?_
    rotate_left
    · intro wS hS; obtain ⟨hS1, hS2⟩ := hS; go_simp; (try with_reducible rfl)
    simp only [Act.put]
    refine wpAnyL_one (i := 2) (by decide +kernel) (by rfl) (fun K hK0 => ?_)
    rw [if_pos (by rfl)]
    go_simp
    refine (keys_any s h hs hh _ (heW.next (Below.refl _ _).drew)).mono ?_
    rintro e w1 ⟨vk, rfl, hOk, hb1⟩
    obtain ⟨Ak, ck, rfl, hck, hSk⟩ := hOk.strs
    rw [hkl'.out] at hck ⊢
    have hs1 : W.heap.size ≤ w1.heap.size := hb1.size
    have hX : (fun W' : World => W'.cell? ⟨w.heap.size, 0, none⟩ = some (.string s) ∧ W'.cell? ⟨w.heap.size + 1, 0, none⟩ = some (.int .i64 (i : Int))) w1 := ⟨(hb1.cell (by simp <;> omega)).trans hHeld.1, (hb1.cell (by simp <;> omega)).trans hHeld.2⟩
    clear hHeld
    have hHeld := hX; clear hX
    refine hK0.out _ _ (Or.inr hHeld) ?_
    clear hK0 K
    try simp only [Act.put, List.setIfInBounds_toArray, List.set_cons_zero, List.set_cons_succ]
    refine wpAnyL_one (i := 4) (by decide +kernel) (by rfl) (fun K hK0 => ?_)
    rw [if_pos (by rfl)]
    go_simp
    refine (path_any Ak ck n (Dg.keysB s h) i w1 hkl'.out (heW.next (below_undrew hb1)) hck (by omega) (fun x hx => by rw [HKS.out x hx]; decide) hSk hi).mono ?_
    rintro e w3 ⟨Ap, cp, np, rfl, hpl, hpc, hSp, hb3⟩
    have hs3 := hb3.size
    have hX : (fun W' : World => W'.cell? ⟨w.heap.size, 0, none⟩ = some (.string s) ∧ W'.cell? ⟨w.heap.size + 1, 0, none⟩ = some (.int .i64 (i : Int))) w3 := ⟨(hb3.cell (by simp <;> omega)).trans hHeld.1, (hb3.cell (by simp <;> omega)).trans hHeld.2⟩
    clear hHeld
    have hHeld := hX; clear hX
    refine hK0.out _ _ (Or.inr hHeld) ?_
    clear hK0 K
    try simp only [Act.put, List.setIfInBounds_toArray, List.set_cons_zero, List.set_cons_succ]
    refine wpAnyL_take (i := 5) (f0 := 12) (v := ?_) rfl (by decide +kernel) (by decide +kernel) (by decide +kernel) (by decide +kernel) (by decide +kernel) (fun _ _ _ h => h) (Or.inl ⟨by rfl, ?_⟩) hHeld ?_
    rotate_left
    · intro wS hS; obtain ⟨hS1, hS2⟩ := hS; go_simp; (try with_reducible rfl)
    simp only [Act.put, List.setIfInBounds_toArray]
    refine wpAnyL_take (i := 6) (f0 := 12) (v := ?_) rfl (by decide +kernel) (by decide +kernel) (by decide +kernel) (by decide +kernel) (by decide +kernel) (fun _ _ _ h => h) (Or.inl ⟨by rfl, ?_⟩) hHeld ?_
    rotate_left
    · intro wS hS; obtain ⟨hS1, hS2⟩ := hS; go_simp; (try with_reducible rfl)
    simp only [Act.put]
    refine wpAnyL_take (i := 7) (f0 := 12) (v := ?_) rfl (by decide +kernel) (by decide +kernel) (by decide +kernel) (by decide +kernel) (by decide +kernel) (fun _ _ _ h => h) (Or.inl ⟨by rfl, ?_⟩) hHeld ?_
    rotate_left
    · intro wS hS; obtain ⟨hS1, hS2⟩ := hS; go_simp; (try with_reducible rfl)
    simp only [Act.put]
    refine wpAnyL_take (i := 8) (f0 := 12) (v := ?_) rfl (by decide +kernel) (by decide +kernel) (by decide +kernel) (by decide +kernel) (by decide +kernel) (fun _ _ _ h => h) (Or.inl ⟨by rfl, ?_⟩) hHeld ?_
    rotate_left
    · intro wS hS; obtain ⟨hS1, hS2⟩ := hS; go_simp; (try with_reducible rfl)
    simp only [Act.put]
    refine wpAnyL_one (i := 9) (by decide +kernel) (by rfl) (fun K hK0 => ?_)
    rw [if_pos (by rfl)]
    have hf3 : w3.heap[w.heap.size + 3]? = some (.cells #[.int .i64 i, .slice Av 18 cv, .slice none 0 0] 24 (0, 0)) := (hb3.block _ (by omega)).trans ((hb1.block _ (by simp; omega)).trans hv)
    have hc0 : w3.cell? ⟨w.heap.size + 1 + 1 + 1, 0, none⟩ = some (.int .i64 i) := by show w3.cell? ⟨w.heap.size + 3, 0, none⟩ = _; rw [cell_of_row _ _ _ _ _ (0, 0) hf3]; rfl
    have hc1 : w3.cell? ⟨w.heap.size + 1 + 1 + 1, 1, none⟩ = some (.slice Av 18 cv) := by show w3.cell? ⟨w.heap.size + 3, 1, none⟩ = _; rw [cell_of_row _ _ _ _ _ (0, 0) hf3]; rfl
    have hc2 : w3.cell? ⟨w.heap.size + 1 + 1 + 1, 2, none⟩ = some (.slice none 0 0) := by show w3.cell? ⟨w.heap.size + 3, 2, none⟩ = _; rw [cell_of_row _ _ _ _ _ (0, 0) hf3]; rfl
    have hz2 : w3.frozen? ⟨w.heap.size + 1 + 1 + 1, 2, none⟩ = false := frozen_of_row _ _ _ _ _ hf3
    have hr3 : w3.heap[w.heap.size + 2]? = some (.cells #[.int .i64 0, .slice none 0 0, .slice none 0 0] 24 (0, 0)) := (hb3.block _ (by omega)).trans ((hb1.block _ (by simp; omega)).trans ((hB.block _ (by omega)).trans q5))
    have hr0 : w3.cell? ⟨w.heap.size + 1 + 1, 0, none⟩ = some (.int .i64 0) := by show w3.cell? ⟨w.heap.size + 2, 0, none⟩ = _; rw [cell_of_row _ _ _ _ _ (0, 0) hr3]; rfl
    have hr1 : w3.cell? ⟨w.heap.size + 1 + 1, 1, none⟩ = some (.slice none 0 0) := by show w3.cell? ⟨w.heap.size + 2, 1, none⟩ = _; rw [cell_of_row _ _ _ _ _ (0, 0) hr3]; rfl
    have hr2 : w3.cell? ⟨w.heap.size + 1 + 1, 2, none⟩ = some (.slice none 0 0) := by show w3.cell? ⟨w.heap.size + 2, 2, none⟩ = _; rw [cell_of_row _ _ _ _ _ (0, 0) hr3]; rfl
    have hrz : ∀ j, w3.frozen? ⟨w.heap.size + 1 + 1, j, none⟩ = false := fun j => frozen_of_row _ _ _ _ _ hr3
    have hrz0 := hrz 0
    have hrz1 := hrz 1
    have hrz2 := hrz 2
    clear hrz
    go_simp
    refine hK0.out _ _ (Or.inr ⟨(World.cell?_setCell_far _ _ _ _ (by simp <;> omega)).trans hHeld.1, (World.cell?_setCell_far _ _ _ _ (by simp <;> omega)).trans hHeld.2⟩) ?_
    clear hK0 K
    try simp only [Act.put, List.setIfInBounds_toArray, List.set_cons_zero, List.set_cons_succ]
    refine wpAnyL_done (by decide +kernel) ?_ _
    refine NoPanic.normal ?_
    go_wp2
    have hDW : D < W.heap.size := (Array.getElem?_eq_some_iff.1 hK).1
    have hK3 : w3.heap[D]? = some (.deferred (some [])) := (hb3.block D (by omega)).trans ((hb1.block D (by simp; omega)).trans hK)
    refine ⟨by simp, .inl ⟨_, _, rfl, run_takeDeferred (ds := []) ?hKD, ?post⟩⟩
    case hKD =>
      rw [heap_setCell_other _ _ _ _ (by simp; omega), heap_setCell_other _ _ _ _ (by simp; omega), heap_setCell_other _ _ _ _ (by simp; omega), heap_setCell_other _ _ _ _ (by simp; omega)]
      exact hK3
    case post =>
      obtain rfl : np = h := hpl.symm.trans hpl0.out
      obtain ⟨f1, f2, f3, f4⟩ := sign_end (w := w) (q := Dg.path (Dg.keysB s np) i) (l := Dg.sigB s i m) (Av := Av) (Ap := Ap) (ns := 18) (cv := cv) (np := np) (cp := cp) (i := i) (D := D) (by omega) hK3 hr3 hf3 (by rw [← hsl'.out]; exact (((OwnS.below (w := W.drew) (hsl'.out.symm ▸ hO) hb1).below hb3))) hSp (q2.trans ((hB.mono (by omega)).trans (((below_undrew hb1).mono (by simp; omega)).trans (hb3.mono (by omega))))) _ rfl
      show LeavesInM _ _ _ _ _ _ _ _ (((((w3.setCell ⟨w.heap.size + 3, 2, none⟩ (.slice Ap np cp)).setCell ⟨w.heap.size + 2, 0, none⟩ (.int .i64 i)).setCell ⟨w.heap.size + 2, 1, none⟩ (.slice Av 18 cv)).setCell ⟨w.heap.size + 2, 2, none⟩ (.slice Ap np cp)).putObj D (.deferred none))
      generalize (((((w3.setCell ⟨w.heap.size + 3, 2, none⟩ (.slice Ap np cp)).setCell ⟨w.heap.size + 2, 0, none⟩ (.int .i64 i)).setCell ⟨w.heap.size + 2, 1, none⟩ (.slice Av 18 cv)).setCell ⟨w.heap.size + 2, 2, none⟩ (.slice Ap np cp)).putObj D (.deferred none)) = F at *
      have g0 : F.cell? ⟨w.heap.size + 1 + 1, 0, none⟩ = some (.int .i64 i) := by show F.cell? ⟨w.heap.size + 2, 0, none⟩ = _; rw [cell_of_row _ _ _ _ _ (0, 0) f1]; rfl
      have g1 : F.cell? ⟨w.heap.size + 1 + 1, 1, none⟩ = some (.slice Av 18 cv) := by show F.cell? ⟨w.heap.size + 2, 1, none⟩ = _; rw [cell_of_row _ _ _ _ _ (0, 0) f1]; rfl
      have g2 : F.cell? ⟨w.heap.size + 1 + 1, 2, none⟩ = some (.slice Ap np cp) := by show F.cell? ⟨w.heap.size + 2, 2, none⟩ = _; rw [cell_of_row _ _ _ _ _ (0, 0) f1]; rfl
      refine ⟨.tuple #[.agg #[.int .i64 i, .slice Av 18 cv, .slice Ap np cp], .int .i64 0], ?_, Av, cv, Ap, cp, rfl, hcv, hpc, f2, f3, f4⟩
      simp [results, Tryz.results9, go_sem, g0, g1, g2]
  case stop =>
    rintro D c pre W _ _ h _
    exact h.elim
end Go.Proofs.YtadmidkpchonhaaGreatDoor
/- Sign where it hands back an error; Verify where it says no before its loop. -/
namespace Go.Proofs.YtadmidkpchonhaaGreatDoor
open Go Go.RowKit Go.Sort
theorem pow_wrapK (h n : Nat) (hn : 2 ^ h = n) (hh : h ≤ 62) : IntKind.i64.wrap (2 ^ h) = (n : Int) := by
  have := Nat.pow_le_pow_right (n := 2) (by omega) hh
  have h2 : 2 ^ 62 = 4611686018427387904 := by decide
  rw [show (2 : Int) ^ h = (n : Int) by rw [← hn]; push_cast; rfl, IntWalk.i64_in _ (by omega)]
/-- The cells of the seal that Verify reads, behind whatever calls. -/
theorem seal_cells (w : World) (a b c : Value) (d : Nat) (os : Array Obj) :
    (grow (redrawn (w.alloc (.cells #[a, b, c] 24)) d) os).cell? ⟨w.heap.size, 0, none⟩ = some a ∧ (grow (redrawn (w.alloc (.cells #[a, b, c] 24)) d) os).cell? ⟨w.heap.size, 1, none⟩ = some b ∧ (grow (redrawn (w.alloc (.cells #[a, b, c] 24)) d) os).cell? ⟨w.heap.size, 2, none⟩ = some c := by
  have hb := below_regrown (w.alloc (.cells #[a, b, c] 24)) d os
  have hr := heap_alloc_new w (.cells #[a, b, c] 24)
  refine ⟨?_, ?_, ?_⟩ <;> (rw [hb.cell (by simp), cell_of_row _ _ _ _ _ (0, 0) hr]; rfl)
theorem below_sb (w : World) (A B C : Obj) (q : Nat) (x y z : Value) : Below w.heap.size w (((((((w.alloc A).alloc B).alloc C).drewN q).setCell ⟨w.heap.size + 1 + 1, 0, none⟩ x).setCell ⟨w.heap.size + 1 + 1, 1, none⟩ y).setCell ⟨w.heap.size + 1 + 1, 2, none⟩ z) :=
  (((below_drewN ((((Below.refl _ _).alloc (Nat.le_refl _) _).alloc (by simp) _).alloc (by simp; omega) _) q).setCell (p := ⟨w.heap.size + 1 + 1, 0, none⟩) (by show w.heap.size ≤ w.heap.size + 1 + 1; omega) _).setCell (p := ⟨w.heap.size + 1 + 1, 1, none⟩) (by show w.heap.size ≤ w.heap.size + 1 + 1; omega) _).setCell (p := ⟨w.heap.size + 1 + 1, 2, none⟩) (by show w.heap.size ≤ w.heap.size + 1 + 1; omega) _
set_option maxRecDepth 100000 in
set_option maxHeartbeats 1000000 in
theorem sign_bad_h (s m : ByteArray) (h i : Int) (hb : h < 0 ∨ 8 < h) (w : World) :
    Calls Tryz.prog 9 #[.string s, .int .i64 h, .int .i64 i, .string m] w fun e w' => e = .returned (.tuple #[.agg #[.int .i64 0, .slice none 0 0, .slice none 0 0], .int .i64 1]) ∧ Below w.heap.size w w' := by
  go_enter Tryz.func9, Tryz.ntmps9
  by_cases h1 : h < 0
  · go_wp2
    go_quiet (fail)
    go_wp2
    exact bodyPost_ret (v := .tuple #[.agg #[.int .i64 0, .slice none 0 0, .slice none 0 0], .int .i64 1]) (by simp [results, Tryz.results9, go_sem]) rfl ⟨rfl, below_sb _ _ _ _ _ _ _ _⟩
  · have h2 : 8 < h := by omega
    go_wp2
    go_quiet (fail)
    go_wp2
    exact bodyPost_ret (v := .tuple #[.agg #[.int .i64 0, .slice none 0 0, .slice none 0 0], .int .i64 1]) (by simp [results, Tryz.results9, go_sem]) rfl ⟨rfl, below_sb _ _ _ _ _ _ _ _⟩
set_option maxRecDepth 100000 in
set_option maxHeartbeats 1000000 in
theorem sign_bad_i (s m : ByteArray) (h n : Nat) (i : Int) (hh : h ≤ 8) (hn : 2 ^ h = n) (hb : i < 0 ∨ (n : Int) ≤ i) (w : World) :
    Calls Tryz.prog 9 #[.string s, .int .i64 h, .int .i64 i, .string m] w fun e w' => e = .returned (.tuple #[.agg #[.int .i64 0, .slice none 0 0, .slice none 0 0], .int .i64 1]) ∧ Below w.heap.size w w' := by
  have hw := pow_wrap h n hn (by omega)
  have hw2 := pow_wrapK h n hn (by omega)
  clear hn
  have d1 : decide ((h : Int) < 0) = false := decide_eq_false (by omega)
  have d2 : decide (8 < (h : Int)) = false := decide_eq_false (by omega)
  go_enter Tryz.func9, Tryz.ntmps9
  by_cases h1 : i < 0
  · go_wp2
    go_quiet (fail)
    go_wp2
    exact bodyPost_ret (v := .tuple #[.agg #[.int .i64 0, .slice none 0 0, .slice none 0 0], .int .i64 1]) (by simp [results, Tryz.results9, go_sem]) rfl ⟨rfl, below_sb _ _ _ _ _ _ _ _⟩
  · have h2 : (n : Int) ≤ i := by omega
    have d3 : decide (i < 0) = false := decide_eq_false h1
    have d4 : decide ((n : Int) ≤ i) = true := decide_eq_true h2
    go_wp2
    go_quiet (fail)
    go_wp2
    exact bodyPost_ret (v := .tuple #[.agg #[.int .i64 0, .slice none 0 0, .slice none 0 0], .int .i64 1]) (by simp [results, Tryz.results9, go_sem]) rfl ⟨rfl, below_sb _ _ _ _ _ _ _ _⟩
set_option maxRecDepth 100000 in
set_option maxHeartbeats 1000000 in
theorem verify_a (p m : ByteArray) (i : Int) (A A' : Option Addr) (n n' c c' : Nat) (w : World) (hn : n ≠ 18) :
    Calls Tryz.prog 12 #[.string p, .string m, .agg #[.int .i64 i, .slice A n c, .slice A' n' c']] w fun e w' => e = .returned (.bool false) ∧ Below w.heap.size w w' := by
  have e1 : ((n : Int) == 18) = false := by simp; omega
  have e2 : ((n : Int) != 18) = true := by simp; omega
  have e3 : decide (n = 18) = false := decide_eq_false hn
  go_enter Tryz.func12, Tryz.ntmps12
  go_wp2
  go_quiet (fail)
  go_wp2
  go_ret
  exact ⟨rfl, below_drewN ((Below.refl _ _).alloc (Nat.le_refl _) _) _⟩
set_option maxRecDepth 100000 in
set_option maxHeartbeats 1000000 in
theorem verify_b (p m : ByteArray) (i : Int) (A A' : Option Addr) (n' c c' : Nat) (w : World) (hn : 8 < n') :
    Calls Tryz.prog 12 #[.string p, .string m, .agg #[.int .i64 i, .slice A 18 c, .slice A' n' c']] w fun e w' => e = .returned (.bool false) ∧ Below w.heap.size w w' := by
  have d2 : decide (8 < (n' : Int)) = true := decide_eq_true (by omega)
  have d3 : decide (8 < n') = true := decide_eq_true hn
  go_enter Tryz.func12, Tryz.ntmps12
  go_wp2
  go_quiet (fail)
  go_wp2
  go_ret
  exact ⟨rfl, below_drewN ((Below.refl _ _).alloc (Nat.le_refl _) _) _⟩
set_option maxRecDepth 100000 in
set_option maxHeartbeats 1000000 in
theorem verify_c (p m : ByteArray) (i : Int) (A A' : Option Addr) (n' c c' : Nat) (sig : List ByteArray) (w : World) (hn : n' ≤ 8) (hl : sig.length = 18) (hz : ∀ s ∈ sig, s.size ≤ 4611686018427387904) (hS : Strs w w.heap.size A sig) (hd : allDig sig = false) :
    Calls Tryz.prog 12 #[.string p, .string m, .agg #[.int .i64 i, .slice A 18 c, .slice A' n' c']] w fun e w' => e = .returned (.bool false) ∧ Below w.heap.size w w' := by
  have hz := hide hz
  have d2 : decide (8 < (n' : Int)) = false := decide_eq_false (by omega)
  have d3 : decide (8 < n') = false := decide_eq_false (by omega)
  have hl' := hide hl; clear hl
  have hd' := hide hd; clear hd
  go_enter Tryz.func12, Tryz.ntmps12
  go_wp2
  have hS1 : Strs (w.alloc (.cells #[.int .i64 i, .slice A 18 c, .slice A' n' c'] 24)) (w.alloc (.cells #[.int .i64 i, .slice A 18 c, .slice A' n' c'] 24)).heap.size A sig := keepS hS (Below.news (Below.refl _ _) _)
  have q1 := fun (d : Nat) (os : Array Obj) => Calls.regrown_of (odd_any A c 18 sig false hd'.out (grow (redrawn (w.alloc (.cells #[.int .i64 i, .slice A 18 c, .slice A' n' c'] 24)) d) os) hl'.out (by omega) hz.out (keepS hS1 (below_regrown _ d os)))
  have Q1 := hide q1; clear q1
  have g0 := fun d os => (seal_cells w (.int .i64 i) (.slice A 18 c) (.slice A' n' c') d os).1
  have g1 := fun d os => (seal_cells w (.int .i64 i) (.slice A 18 c) (.slice A' n' c') d os).2.1
  have g2 := fun d os => (seal_cells w (.int .i64 i) (.slice A 18 c) (.slice A' n' c') d os).2.2
  refine wp_region_quiet_below (by kernel_rfl) (by decide +kernel) ?_
  repeat (first | go_big_quiet_step (fail) | quiet_step (fail))
  (first | go_big_quiet_step (exact Q1.out _ _) | quiet_step (exact Q1.out _ _))
  repeat (first | go_big_quiet_step (fail) | quiet_step (fail))
  refine wpQuiet_nil ?_
  intro _ hw'
  obtain ⟨⟨dq, osq⟩, hw''⟩ := hw'
  subst hw''
  go_wp2
  go_ret
  exact ⟨rfl, bnextA (Below.refl _ _) (below_regrown _ dq osq)⟩
set_option maxRecDepth 100000 in
set_option maxHeartbeats 1000000 in
theorem verify_d (p m : ByteArray) (i : Int) (A A' : Option Addr) (n' c c' : Nat) (sig path : List ByteArray) (w : World) (hn : n' ≤ 8) (hl : sig.length = 18) (hz : ∀ s ∈ sig, s.size ≤ 4611686018427387904) (hS : Strs w w.heap.size A sig) (hd : allDig sig = true)
    (hl2 : path.length = n') (hz2 : ∀ s ∈ path, s.size ≤ 4611686018427387904) (hS2 : Strs w w.heap.size A' path) (hd2 : allDig path = false) :
    Calls Tryz.prog 12 #[.string p, .string m, .agg #[.int .i64 i, .slice A 18 c, .slice A' n' c']] w fun e w' => e = .returned (.bool false) ∧ Below w.heap.size w w' := by
  have hz := hide hz
  have hz2 := hide hz2
  have d2 : decide (8 < (n' : Int)) = false := decide_eq_false (by omega)
  have d3 : decide (8 < n') = false := decide_eq_false (by omega)
  have hl' := hide hl; clear hl
  have hd' := hide hd; clear hd
  have hl2' := hide hl2; clear hl2
  have hd2' := hide hd2; clear hd2
  go_enter Tryz.func12, Tryz.ntmps12
  go_wp2
  have hS1 : Strs (w.alloc (.cells #[.int .i64 i, .slice A 18 c, .slice A' n' c'] 24)) (w.alloc (.cells #[.int .i64 i, .slice A 18 c, .slice A' n' c'] 24)).heap.size A sig := keepS hS (Below.news (Below.refl _ _) _)
  have hS3 : Strs (w.alloc (.cells #[.int .i64 i, .slice A 18 c, .slice A' n' c'] 24)) (w.alloc (.cells #[.int .i64 i, .slice A 18 c, .slice A' n' c'] 24)).heap.size A' path := keepS hS2 (Below.news (Below.refl _ _) _)
  have q1 := fun (d : Nat) (os : Array Obj) => Calls.regrown_of (odd_any A c 18 sig true hd'.out (grow (redrawn (w.alloc (.cells #[.int .i64 i, .slice A 18 c, .slice A' n' c'] 24)) d) os) hl'.out (by omega) hz.out (keepS hS1 (below_regrown _ d os)))
  have q2 := fun (d : Nat) (os : Array Obj) => Calls.regrown_of (odd_any A' c' n' path false hd2'.out (grow (redrawn (w.alloc (.cells #[.int .i64 i, .slice A 18 c, .slice A' n' c'] 24)) d) os) hl2'.out (by omega) hz2.out (keepS hS3 (below_regrown _ d os)))
  have Q1 := hide q1; have Q2 := hide q2; clear q1 q2
  have g0 := fun d os => (seal_cells w (.int .i64 i) (.slice A 18 c) (.slice A' n' c') d os).1
  have g1 := fun d os => (seal_cells w (.int .i64 i) (.slice A 18 c) (.slice A' n' c') d os).2.1
  have g2 := fun d os => (seal_cells w (.int .i64 i) (.slice A 18 c) (.slice A' n' c') d os).2.2
  refine wp_region_quiet_below (by kernel_rfl) (by decide +kernel) ?_
  repeat (first | go_big_quiet_step (fail) | quiet_step (fail))
  (first | go_big_quiet_step (exact Q1.out _ _) | quiet_step (exact Q1.out _ _))
  repeat (first | go_big_quiet_step (fail) | quiet_step (fail))
  (first | go_big_quiet_step (exact Q2.out _ _) | quiet_step (exact Q2.out _ _))
  repeat (first | go_big_quiet_step (fail) | quiet_step (fail))
  refine wpQuiet_nil ?_
  intro _ hw'
  obtain ⟨⟨dq, osq⟩, hw''⟩ := hw'
  subst hw''
  go_wp2
  go_ret
  exact ⟨rfl, bnextA (Below.refl _ _) (below_regrown _ dq osq)⟩
set_option maxRecDepth 100000 in
set_option maxHeartbeats 1000000 in
theorem verify_e (p m : ByteArray) (i : Int) (A A' : Option Addr) (n' c c' : Nat) (sig path : List ByteArray) (w : World) (hn : n' ≤ 8) (hl : sig.length = 18) (hz : ∀ s ∈ sig, s.size ≤ 4611686018427387904) (hS : Strs w w.heap.size A sig) (hd : allDig sig = true)
    (hl2 : path.length = n') (hz2 : ∀ s ∈ path, s.size ≤ 4611686018427387904) (hS2 : Strs w w.heap.size A' path) (hd2 : allDig path = true) (hi : i < 0) :
    Calls Tryz.prog 12 #[.string p, .string m, .agg #[.int .i64 i, .slice A 18 c, .slice A' n' c']] w fun e w' => e = .returned (.bool false) ∧ Below w.heap.size w w' := by
  have hz := hide hz
  have hz2 := hide hz2
  have d2 : decide (8 < (n' : Int)) = false := decide_eq_false (by omega)
  have d3 : decide (8 < n') = false := decide_eq_false (by omega)
  have d4 : decide (i < 0) = true := decide_eq_true hi
  have hl' := hide hl; clear hl
  have hd' := hide hd; clear hd
  have hl2' := hide hl2; clear hl2
  have hd2' := hide hd2; clear hd2
  go_enter Tryz.func12, Tryz.ntmps12
  go_wp2
  have hS1 : Strs (w.alloc (.cells #[.int .i64 i, .slice A 18 c, .slice A' n' c'] 24)) (w.alloc (.cells #[.int .i64 i, .slice A 18 c, .slice A' n' c'] 24)).heap.size A sig := keepS hS (Below.news (Below.refl _ _) _)
  have hS3 : Strs (w.alloc (.cells #[.int .i64 i, .slice A 18 c, .slice A' n' c'] 24)) (w.alloc (.cells #[.int .i64 i, .slice A 18 c, .slice A' n' c'] 24)).heap.size A' path := keepS hS2 (Below.news (Below.refl _ _) _)
  have q1 := fun (d : Nat) (os : Array Obj) => Calls.regrown_of (odd_any A c 18 sig true hd'.out (grow (redrawn (w.alloc (.cells #[.int .i64 i, .slice A 18 c, .slice A' n' c'] 24)) d) os) hl'.out (by omega) hz.out (keepS hS1 (below_regrown _ d os)))
  have q2 := fun (d : Nat) (os : Array Obj) => Calls.regrown_of (odd_any A' c' n' path true hd2'.out (grow (redrawn (w.alloc (.cells #[.int .i64 i, .slice A 18 c, .slice A' n' c'] 24)) d) os) hl2'.out (by omega) hz2.out (keepS hS3 (below_regrown _ d os)))
  have Q1 := hide q1; have Q2 := hide q2; clear q1 q2
  have g0 := fun d os => (seal_cells w (.int .i64 i) (.slice A 18 c) (.slice A' n' c') d os).1
  have g1 := fun d os => (seal_cells w (.int .i64 i) (.slice A 18 c) (.slice A' n' c') d os).2.1
  have g2 := fun d os => (seal_cells w (.int .i64 i) (.slice A 18 c) (.slice A' n' c') d os).2.2
  refine wp_region_quiet_below (by kernel_rfl) (by decide +kernel) ?_
  repeat (first | go_big_quiet_step (fail) | quiet_step (fail))
  (first | go_big_quiet_step (exact Q1.out _ _) | quiet_step (exact Q1.out _ _))
  repeat (first | go_big_quiet_step (fail) | quiet_step (fail))
  (first | go_big_quiet_step (exact Q2.out _ _) | quiet_step (exact Q2.out _ _))
  repeat (first | go_big_quiet_step (fail) | quiet_step (fail))
  refine wpQuiet_nil ?_
  intro _ hw'
  obtain ⟨⟨dq, osq⟩, hw''⟩ := hw'
  subst hw''
  go_wp2
  go_ret
  exact ⟨rfl, bnextA (Below.refl _ _) (below_regrown _ dq osq)⟩
set_option maxRecDepth 100000 in
set_option maxHeartbeats 1000000 in
theorem verify_f (p m : ByteArray) (i : Int) (A A' : Option Addr) (n' c c' : Nat) (sig path : List ByteArray) (w : World) (hn : n' ≤ 8) (hl : sig.length = 18) (hz : ∀ s ∈ sig, s.size ≤ 4611686018427387904) (hS : Strs w w.heap.size A sig) (hd : allDig sig = true)
    (hl2 : path.length = n') (hz2 : ∀ s ∈ path, s.size ≤ 4611686018427387904) (hS2 : Strs w w.heap.size A' path) (hd2 : allDig path = true) (N : Nat) (hN : 2 ^ n' = N) (hi : (N : Int) ≤ i) :
    Calls Tryz.prog 12 #[.string p, .string m, .agg #[.int .i64 i, .slice A 18 c, .slice A' n' c']] w fun e w' => e = .returned (.bool false) ∧ Below w.heap.size w w' := by
  have hz := hide hz
  have hz2 := hide hz2
  have d2 : decide (8 < (n' : Int)) = false := decide_eq_false (by omega)
  have d3 : decide (8 < n') = false := decide_eq_false (by omega)
  have hi0 : 0 ≤ i := by omega
  have d4 : decide (i < 0) = false := decide_eq_false (by omega)
  have d5 : decide ((N : Int) ≤ i) = true := decide_eq_true hi
  have hw := pow_wrap n' N hN (by omega)
  have hw2 := pow_wrapK n' N hN (by omega)
  clear hN
  have hl' := hide hl; clear hl
  have hd' := hide hd; clear hd
  have hl2' := hide hl2; clear hl2
  have hd2' := hide hd2; clear hd2
  go_enter Tryz.func12, Tryz.ntmps12
  go_wp2
  have hS1 : Strs (w.alloc (.cells #[.int .i64 i, .slice A 18 c, .slice A' n' c'] 24)) (w.alloc (.cells #[.int .i64 i, .slice A 18 c, .slice A' n' c'] 24)).heap.size A sig := keepS hS (Below.news (Below.refl _ _) _)
  have hS3 : Strs (w.alloc (.cells #[.int .i64 i, .slice A 18 c, .slice A' n' c'] 24)) (w.alloc (.cells #[.int .i64 i, .slice A 18 c, .slice A' n' c'] 24)).heap.size A' path := keepS hS2 (Below.news (Below.refl _ _) _)
  have q1 := fun (d : Nat) (os : Array Obj) => Calls.regrown_of (odd_any A c 18 sig true hd'.out (grow (redrawn (w.alloc (.cells #[.int .i64 i, .slice A 18 c, .slice A' n' c'] 24)) d) os) hl'.out (by omega) hz.out (keepS hS1 (below_regrown _ d os)))
  have q2 := fun (d : Nat) (os : Array Obj) => Calls.regrown_of (odd_any A' c' n' path true hd2'.out (grow (redrawn (w.alloc (.cells #[.int .i64 i, .slice A 18 c, .slice A' n' c'] 24)) d) os) hl2'.out (by omega) hz2.out (keepS hS3 (below_regrown _ d os)))
  have Q1 := hide q1; have Q2 := hide q2; clear q1 q2
  have g0 := fun d os => (seal_cells w (.int .i64 i) (.slice A 18 c) (.slice A' n' c') d os).1
  have g1 := fun d os => (seal_cells w (.int .i64 i) (.slice A 18 c) (.slice A' n' c') d os).2.1
  have g2 := fun d os => (seal_cells w (.int .i64 i) (.slice A 18 c) (.slice A' n' c') d os).2.2
  refine wp_region_quiet_below (by kernel_rfl) (by decide +kernel) ?_
  repeat (first | go_big_quiet_step (fail) | quiet_step (fail))
  (first | go_big_quiet_step (exact Q1.out _ _) | quiet_step (exact Q1.out _ _))
  repeat (first | go_big_quiet_step (fail) | quiet_step (fail))
  (first | go_big_quiet_step (exact Q2.out _ _) | quiet_step (exact Q2.out _ _))
  repeat (first | go_big_quiet_step (fail) | quiet_step (fail))
  refine wpQuiet_nil ?_
  intro _ hw'
  obtain ⟨⟨dq, osq⟩, hw''⟩ := hw'
  subst hw''
  go_wp2
  go_ret
  exact ⟨rfl, bnextA (Below.refl _ _) (below_regrown _ dq osq)⟩
end Go.Proofs.YtadmidkpchonhaaGreatDoor
/- Verify of package seal, walked to its end. -/
namespace Go.Proofs.YtadmidkpchonhaaGreatDoor
open Go Go.RowKit Go.Sort
attribute [local go_sem] Oper.semAt_some
/-- The ends of the chains as far as the digits go. -/
def endTo (sig : List ByteArray) (pre : List DigP) : List ByteArray := pre.map fun x => Dg.chainB (sig.getD x.1.1 ⟨#[]⟩) (15 - x.1.2)
theorem endTo_snoc (sig : List ByteArray) (pre : List DigP) (x : DigP) : endTo sig (pre ++ [x]) = endTo sig pre ++ [Dg.chainB (sig.getD x.1.1 ⟨#[]⟩) (15 - x.1.2)] := by unfold endTo; rw [List.map_append]; rfl
theorem endTo_all (m : ByteArray) (sig : List ByteArray) (xs : List DigP) (h : xs.map Subtype.val = digTo m 18) : endTo sig xs = Dg.endsB m sig := by
  have : endTo sig xs = (xs.map Subtype.val).map fun x => Dg.chainB (sig.getD x.1 ⟨#[]⟩) (15 - x.2) := by unfold endTo; rw [List.map_map]; rfl
  rw [this, h]
  unfold digTo Dg.endsB
  rw [List.map_map]
  rfl
/-- What the loop of Verify keeps: the ends lie in box G, their texts are the call's own; what lay below G lies on. -/
def VerInv (w0 : World) (G : Nat) (l : List ByteArray) (W : World) : Prop :=
  (∃ v, W.heap[G]? = some (.cells #[v] 22 (0, 0)) ∧ OwnS W (G + 1) v l) ∧ Below G w0 W
theorem VerInv.own (w0 : World) (G : Nat) (f : List DigP → List ByteArray) (B : Nat) (hB : G < B) : OwnFrom B (fun pre W => VerInv w0 G (f pre) W) := by
  rintro pre W W' row ⟨⟨v, h1, h2⟩, h3⟩ hg hr
  have hbl := (Array.getElem?_eq_some_iff.1 h1).1
  have hne : ∀ k (o : Obj), W.heap[k]? = some o → o.isCells = true → some k ≠ row := fun k o hk ho e => by
    obtain ⟨_, o', h4, h5⟩ := hr k e.symm
    rw [hk] at h4; cases h4; rw [ho] at h5; exact Bool.noConfusion h5
  refine ⟨⟨v, (hg.block G hbl (hne G _ h1 rfl)).trans h1, ?_⟩, ?_⟩
  · refine World.ownsRow.kept h2 hg ?_
    rcases h2.2 with ⟨rfl, _⟩ | ⟨g, cap, cur, rfl, _, hgb, _⟩
    · exact .inl rfl
    · exact .inr fun e => hne g _ hgb rfl (by simpa [Value.ownBlock] using e)
  · refine ⟨hg.os.trans h3.os, hg.tape.trans h3.tape, hg.output.trans h3.output, Nat.le_trans h3.size hg.size, fun k hk => ?_⟩
    refine (hg.block k (by omega) (fun e => ?_)).trans (h3.block k hk)
    have := (hr k e.symm).1
    omega
theorem VerInv.round {w0 : World} {G : Nat} {v : Value} {l : List ByteArray} {W w9 : World} {g c n : Nat} (hB : Below G w0 W) (hW : Below G W w9)
    (hf : w9.heap[G]? = some (.cells #[v] 22 (0, 0))) (hO : OwnS w9 (G + 1) (.slice (some ⟨g, 0, none⟩) n c) l) :
    VerInv w0 G l (w9.setCell ⟨G, 0, none⟩ (.slice (some ⟨g, 0, none⟩) n c)) :=
  ⟨⟨_, (heap_setCell_same _ _ _ _ _ _ hf).trans rfl, hO.setFar (Nat.lt_succ_self _) 0 _⟩, (hB.trans hW).setCell (p := ⟨G, 0, none⟩) (Nat.le_refl _) _⟩
theorem endsB_joined (m : ByteArray) (sig : List ByteArray) (h : ∀ s ∈ sig, s.size = 16) : (Dg.joinedL (Dg.endsB m sig)).length ≤ 1099511627776 :=
  joined_16 _ (by rw [Dg.endsB_len]; decide) fun x hx => by
    obtain ⟨k, _, rfl⟩ := List.mem_map.1 hx
    have := Dg.chainB_le (sig.getD k ⟨#[]⟩) (15 - Dg.dig m k)
    have h2 : (sig.getD k ⟨#[]⟩).size ≤ 16 := by
      rw [List.getD_eq_getElem?_getD]
      cases hg : sig[k]? with
      | none => decide
      | some s => exact Nat.le_of_eq (h s (List.mem_of_getElem? hg))
    omega
theorem getD_eq (l : List ByteArray) (k : Nat) (h : k < l.length) : l.getD k ⟨#[]⟩ = l[k] := by rw [List.getD_eq_getElem?_getD, List.getElem?_eq_getElem h]; rfl
set_option maxRecDepth 100000 in
set_option maxHeartbeats 2000000 in
theorem verify_g (p m : ByteArray) (i : Int) (A A' : Option Addr) (n' c c' : Nat) (sig path : List ByteArray) (w : World) (he : Env w) (hm : m.size ≤ 9223372036854775807) (hn : n' ≤ 8) (hl : sig.length = 18) (hz : ∀ s ∈ sig, s.size ≤ 4611686018427387904) (hS : Strs w w.heap.size A sig) (hd : allDig sig = true)
    (hl2 : path.length = n') (hz2 : ∀ s ∈ path, s.size ≤ 1073741824) (hS2 : Strs w w.heap.size A' path) (hd2 : allDig path = true) (N : Nat) (hN : 2 ^ n' = N) (hi0 : 0 ≤ i) (hi : i < N) (_hc18 : 18 ≤ c) (R : Bool) (hR : checkB p N i (Dg.listB (Dg.endsB m sig)) path = R) :
    Calls Tryz.prog 12 #[.string p, .string m, .agg #[.int .i64 i, .slice A 18 c, .slice A' n' c']] w fun e w' => e = .returned (.bool R) ∧ Below w.heap.size w w' := by
  have hz16 := hide (allDig_16 hd)
  have hz := hide hz
  have hz2 := hide hz2
  have hz3 := hide (fun (s : ByteArray) (hs : s ∈ path) => (Nat.le_trans (hz2.out s hs) (by decide) : s.size ≤ 4611686018427387904))
  have hR := hide hR
  have d2 : decide (8 < (n' : Int)) = false := decide_eq_false (by omega)
  have d3 : decide (8 < n') = false := decide_eq_false (by omega)
  have d4 : decide (i < 0) = false := decide_eq_false (by omega)
  have d5 : decide ((N : Int) ≤ i) = false := decide_eq_false (by omega)
  have hw := pow_wrap n' N hN (by omega)
  have hw2 := pow_wrapK n' N hN (by omega)
  clear hN
  have hl' := hide hl; clear hl
  have hd' := hide hd; clear hd
  have hl2' := hide hl2; clear hl2
  have hd2' := hide hd2; clear hd2
  refine (callsIn_wide (n := 5)).1 ?_
  refine callsIn_of_wp_marks Tryz.func12 rfl trivial ?_ rfl
  simp only [Tryz.ntmps12, List.size_toArray, List.length_cons, List.length_nil, Nat.reduceAdd, Nat.reduceSub, Array.replicate_succ, Array.replicate_zero, List.push_toArray, List.append_toArray, List.nil_append, List.cons_append]
  refine wpIn_wide.2 ?_
  go_wp2
  have hS1 : Strs (w.alloc (.cells #[.int .i64 i, .slice A 18 c, .slice A' n' c'] 24)) (w.alloc (.cells #[.int .i64 i, .slice A 18 c, .slice A' n' c'] 24)).heap.size A sig := keepS hS (Below.news (Below.refl _ _) _)
  have hS3 : Strs (w.alloc (.cells #[.int .i64 i, .slice A 18 c, .slice A' n' c'] 24)) (w.alloc (.cells #[.int .i64 i, .slice A 18 c, .slice A' n' c'] 24)).heap.size A' path := keepS hS2 (Below.news (Below.refl _ _) _)
  have q1 := fun (d : Nat) (os : Array Obj) => Calls.regrown_of (odd_any A c 18 sig true hd'.out (grow (redrawn (w.alloc (.cells #[.int .i64 i, .slice A 18 c, .slice A' n' c'] 24)) d) os) hl'.out (by omega) hz.out (keepS hS1 (below_regrown _ d os)))
  have q2 := fun (d : Nat) (os : Array Obj) => Calls.regrown_of (odd_any A' c' n' path true hd2'.out (grow (redrawn (w.alloc (.cells #[.int .i64 i, .slice A 18 c, .slice A' n' c'] 24)) d) os) hl2'.out (by omega) hz3.out (keepS hS3 (below_regrown _ d os)))
  have Q1 := hide q1; have Q2 := hide q2; clear q1 q2 hS1 hS3
  have g0 := fun d os => (seal_cells w (.int .i64 i) (.slice A 18 c) (.slice A' n' c') d os).1
  have g1 := fun d os => (seal_cells w (.int .i64 i) (.slice A 18 c) (.slice A' n' c') d os).2.1
  have g2 := fun d os => (seal_cells w (.int .i64 i) (.slice A 18 c) (.slice A' n' c') d os).2.2
  refine wp_region_quiet_below (by kernel_rfl) (by decide +kernel) ?_
  repeat (first | go_big_quiet_step (fail) | quiet_step (fail))
  (first | go_big_quiet_step (exact Q1.out _ _) | quiet_step (exact Q1.out _ _))
  repeat (first | go_big_quiet_step (fail) | quiet_step (fail))
  (first | go_big_quiet_step (exact Q2.out _ _) | quiet_step (exact Q2.out _ _))
  repeat (first | go_big_quiet_step (fail) | quiet_step (fail))
  refine wpQuiet_nil ?_
  intro _ hw'
  obtain ⟨⟨dq, osq⟩, hw''⟩ := hw'
  subst hw''
  clear Q1 Q2
  have G0 := g0 dq osq
  have G1 := g1 dq osq
  have G2 := g2 dq osq
  clear g0 g1 g2
  have hbw := bnextA (Below.refl w.heap.size w) (below_regrown (w.alloc (.cells #[.int .i64 i, .slice A 18 c, .slice A' n' c'] 24)) dq osq)
  have hsw := (below_regrown (w.alloc (.cells #[.int .i64 i, .slice A 18 c, .slice A' n' c'] 24)) dq osq).size
  rw [World.size_alloc] at hsw
  generalize hW3 : grow (redrawn (w.alloc (.cells #[.int .i64 i, .slice A 18 c, .slice A' n' c'] 24)) dq) osq = W3 at *
  go_wp2_with (go_at_call 18; refine (sdigits_any _ _).mono ?_; rintro e w' ⟨rfl, rfl⟩)
  generalize hG : W3.heap.size = G at *
  have hgr : (W3.alloc (.cells #[.slice none 0 0] 22)).heap[G]? = some (.cells #[.slice none 0 0] 22) := by rw [← hG]; exact heap_alloc_new _ _
  have hsz4 : (W3.alloc (.cells #[.slice none 0 0] 22)).heap.size = G + 1 := by rw [World.size_alloc, hG]
  have hmr := heap_alloc_new (W3.alloc (.cells #[.slice none 0 0] 22)) (.cells #[.string m] 9)
  rw [hsz4] at hmr
  have hI : VerInv W3 G [] ((W3.alloc (.cells #[.slice none 0 0] 22)).alloc (.cells #[.string m] 9)) := ⟨⟨.slice none 0 0, ((Below.refl (G + 1) (W3.alloc (.cells #[.slice none 0 0] 22))).alloc (by omega) _).block G (by omega) |>.trans hgr, OwnS.nil _ _⟩, ((Below.refl _ W3).alloc (by omega) _).alloc (by omega) _⟩
  have hsz5 : ((W3.alloc (.cells #[.slice none 0 0] 22)).alloc (.cells #[.string m] 9)).heap.size = G + 2 := by rw [World.size_alloc, hsz4]
  generalize hW5 : (W3.alloc (.cells #[.slice none 0 0] 22)).alloc (.cells #[.string m] 9) = W5 at *
  have hc5 : W5.cell? ⟨G + 1, 0, none⟩ = some (.string m) := by rw [cell_of_row _ _ _ _ _ (0, 0) hmr]; rfl
  refine (wpIn_wide (n := 5)).1 ?_
  refine wpIn_rangeFunc_ownG (n := 5) rfl (by omega) (gf := 46) (lb := #[.pointer (some ⟨G + 1, 0, none⟩)]) rfl trivial (enters_of Tryz.func46 (by kernel_rfl) rfl)
    (digits_stops 4 (by omega) m hm (G + 1) W5 (by omega) hc5) (fun _ _ => trivial) (fun _ _ _ _ _ _ _ _ => trivial) (Below.refl _ _) (fun _ => rfl)
    (fun pre W => VerInv W3 G (endTo sig pre) W) (fun _ _ _ => False)
    (VerInv.own W3 _ _ _ (by omega)) (fun _ _ _ _ _ hs _ _ => hs) hI ?a1 ?assign ?body ?done ?stop
  case assign =>
    intro l x W K hK
    simp only [encD]
    gi_wp2
    exact hK
  case body =>
    rintro l pre ⟨⟨k, d⟩, hk, hd⟩ W ⟨⟨v, hv, hO⟩, hB⟩ hlt
    have hk : k < 18 := hk
    have hd : d ≤ 15 := hd
    have hkl : k < sig.length := by rw [hl'.out]; exact hk
    obtain ⟨b, off, rfl, hbl, hcell⟩ := hS.get hkl
    have hk0 : (0 : Int) ≤ (k : Int) := by omega
    have hk1 : (k : Int) < 18 := by omega
    have hgk := hide (getD_eq sig k hkl)
    have hx16 := hz16.out sig[k] (List.getElem_mem hkl)
    generalize sig[k] = x at *
    generalize hC : Dg.chainB x (15 - d) = C0 at *
    have HC := hide hC; clear hC
    have hmin : Hid ((min (15 - (d : Int)) 1000).toNat = 15 - d) := by unfold Hid; omega
    have hlB : G < W.heap.size := (Array.getElem?_eq_some_iff.1 hv).1
    have hmx : Tryz.prog.follows .mixedOrders = true := by kernel_rfl
    have hHeld : (fun W' : World => W'.cell? ⟨G, 0, none⟩ = some v ∧ W'.cell? ⟨w.heap.size, 1, none⟩ = some (.slice (some ⟨b, off, none⟩) 18 c) ∧ W'.cell? ⟨b, off + k, none⟩ = some (.string x)) W.drew := ⟨by show W.cell? _ = _; rw [cell_of_row _ _ _ _ _ (0, 0) hv]; rfl, (hB.cell (by simp; omega)).trans G1, (hB.cell (by simp; omega)).trans ((hbw.cell (by exact hbl)).trans hcell)⟩
    gi_wp2
    refine wpIn_region_L (fun W' : World => W'.cell? ⟨G, 0, none⟩ = some v ∧ W'.cell? ⟨w.heap.size, 1, none⟩ = some (.slice (some ⟨b, off, none⟩) 18 c) ∧ W'.cell? ⟨b, off + k, none⟩ = some (.string x)) 11 hmx (by kernel_rfl) (fun ⟨_, _, h⟩ => h) ?_
    refine wpAnyL_take (i := 0) (f0 := 12) (v := ?_) rfl (by decide +kernel) (by decide +kernel) (by decide +kernel) (by decide +kernel) (by decide +kernel) (fun _ _ _ h => h) (Or.inl ⟨by rfl, ?_⟩) hHeld ?_
    rotate_left
    · intro wS hS; obtain ⟨hS1, hS2, hS3⟩ := hS; go_simp; (try with_reducible rfl)
    simp only [Act.put, List.setIfInBounds_toArray]
    refine wpAnyL_take (i := 1) (f0 := 12) (v := ?_) rfl (by decide +kernel) (by decide +kernel) (by decide +kernel) (by decide +kernel) (by decide +kernel) (fun _ _ _ h => h) (Or.inl ⟨by rfl, ?_⟩) hHeld ?_
    rotate_left
    · intro wS hS; obtain ⟨hS1, hS2, hS3⟩ := hS; go_simp; (try with_reducible rfl)
    simp only [Act.put]
    refine wpAnyL_take (i := 2) (f0 := 12) (v := ?_) rfl (by decide +kernel) (by decide +kernel) (by decide +kernel) (by decide +kernel) (by decide +kernel) (fun _ _ _ h => h) (Or.inl ⟨by rfl, ?_⟩) hHeld ?_
    rotate_left
    · intro wS hS; obtain ⟨hS1, hS2, hS3⟩ := hS; go_simp; (try with_reducible rfl)
    simp only [Act.put]
    refine wpAnyL_take (i := 3) (f0 := 12) (v := ?_) rfl (by decide +kernel) (by decide +kernel) (by decide +kernel) (by decide +kernel) (by decide +kernel) (fun _ _ _ h => h) (Or.inl ⟨by rfl, ?_⟩) hHeld ?_
    rotate_left
    · intro wS hS; obtain ⟨hS1, hS2, hS3⟩ := hS; go_simp; (try with_reducible rfl)
    simp only [Act.put]
    refine wpAnyL_take (i := 4) (f0 := 12) (v := ?_) rfl (by decide +kernel) (by decide +kernel) (by decide +kernel) (by decide +kernel) (by decide +kernel) (fun _ _ _ h => h) (Or.inl ⟨by rfl, ?_⟩) hHeld ?_
    rotate_left
    · intro wS hS; obtain ⟨hS1, hS2, hS3⟩ := hS; go_simp; (try with_reducible rfl)
    simp only [Act.put]
    refine wpAnyL_take (i := 5) (f0 := 12) (v := ?_) rfl (by decide +kernel) (by decide +kernel) (by decide +kernel) (by decide +kernel) (by decide +kernel) (fun _ _ _ h => h) (Or.inl ⟨by rfl, ?_⟩) hHeld ?_
    rotate_left
    · intro wS hS; obtain ⟨hS1, hS2, hS3⟩ := hS; go_simp; (try with_reducible rfl)
    simp only [Act.put]
    refine wpAnyL_take (i := 6) (f0 := 12) (v := ?_) rfl (by decide +kernel) (by decide +kernel) (by decide +kernel) (by decide +kernel) (by decide +kernel) (fun _ _ _ h => h) (Or.inl ⟨by rfl, ?_⟩) hHeld ?_
    rotate_left
    · intro wS hS; obtain ⟨hS1, hS2, hS3⟩ := hS; go_simp; (try with_reducible rfl)
    simp only [Act.put]
    refine wpAnyL_take (i := 7) (f0 := 12) (v := ?_) rfl (by decide +kernel) (by decide +kernel) (by decide +kernel) (by decide +kernel) (by decide +kernel) (fun _ _ _ h => h) (Or.inl ⟨by rfl, ?_⟩) hHeld ?_
    rotate_left
    · intro wS hS; obtain ⟨hS1, hS2, hS3⟩ := hS; go_simp; (try with_reducible rfl)
    simp only [Act.put]
    refine wpAnyL_one (i := 8) (by decide +kernel) (by rfl) (fun K hK => ?_)
    rw [if_pos (by rfl)]
    go_simp
    rw [IntWalk.i64_in (15 - (d : Int)) (by omega)]
    refine (chain_of x _ (15 - d) hmin.out C0 HC.out (by omega) _).mono ?_
    rintro e w3 ⟨rfl, hb3⟩
    have hs3 : W.heap.size ≤ w3.heap.size := hb3.size
    have hX : (fun W' : World => W'.cell? ⟨G, 0, none⟩ = some v ∧ W'.cell? ⟨w.heap.size, 1, none⟩ = some (.slice (some ⟨b, off, none⟩) 18 c) ∧ W'.cell? ⟨b, off + k, none⟩ = some (.string x)) w3 := ⟨(hb3.cell (by simp <;> omega)).trans hHeld.1, (hb3.cell (by simp <;> omega)).trans hHeld.2.1, (hb3.cell (by simp <;> omega)).trans hHeld.2.2⟩
    clear hHeld
    have hHeld := hX; clear hX
    refine hK.out _ _ (Or.inr hHeld) ?_
    clear hK K
    try simp only [Act.put, List.setIfInBounds_toArray, List.set_cons_zero, List.set_cons_succ]
    refine wpAnyL_one (i := 9) (by decide +kernel) (by rfl) (fun K hK => ?_)
    rw [if_pos (by rfl)]
    go_simp
    have hba : Below w3.heap.size w3 (w3.alloc (.cells #[.string C0] 9)) := (Below.refl _ _).alloc (Nat.le_refl _) _
    have hOa : OwnS (w3.alloc (.cells #[.string C0] 9)) (G + 1) v (endTo sig pre) := OwnV.alloc (OwnS.below (w := W.drew) hO hb3) _
    have hsa : (w3.alloc (.cells #[.string C0] 9)).heap.size = w3.heap.size + 1 := by simp
    have hSa := Strs.new w3 [C0] #[.string C0] 9 rfl
    have hfa : (w3.alloc (.cells #[.string C0] 9)).heap[G]? = some (.cells #[v] 22 (0, 0)) := (hba.block _ (by omega)).trans ((hb3.block _ (by simp; omega)).trans hv)
    have hX : (fun W' : World => W'.cell? ⟨G, 0, none⟩ = some v ∧ W'.cell? ⟨w.heap.size, 1, none⟩ = some (.slice (some ⟨b, off, none⟩) 18 c) ∧ W'.cell? ⟨b, off + k, none⟩ = some (.string x)) (w3.alloc (.cells #[.string C0] 9)) := ⟨(hba.cell (by simp <;> omega)).trans hHeld.1, (hba.cell (by simp <;> omega)).trans hHeld.2.1, (hba.cell (by simp <;> omega)).trans hHeld.2.2⟩
    clear hHeld
    have hHeld := hX; clear hX
    refine hK.out _ _ (Or.inr hHeld) ?_
    generalize hwa : w3.alloc (.cells #[.string C0] 9) = wa at *
    clear hK K
    try simp only [Act.put, List.setIfInBounds_toArray, List.set_cons_zero, List.set_cons_succ]
    refine wpAnyL_one (i := 10) (by decide +kernel) (by rfl) (fun K hK => ?_)
    rw [if_pos (by rfl)]
    refine wp_ad (.tmp 51) (.tmp 60) (by rfl) (G + 1) _ v (endTo sig pre) [C0] (by rfl) hOa (some ⟨w3.heap.size, 0, none⟩) 1 1 rfl (by rfl) hSa (by rw [endTo, List.length_map]; omega) (by omega) ?_
    intro v9 w9 hO9 hb9 hg9
    obtain ⟨g9, c9, rfl, hg9b, hg9l⟩ := OwnS.full hO9 (by simp)
    have hX : (fun W' : World => W'.cell? ⟨G, 0, none⟩ = some v ∧ W'.cell? ⟨w.heap.size, 1, none⟩ = some (.slice (some ⟨b, off, none⟩) 18 c) ∧ W'.cell? ⟨b, off + k, none⟩ = some (.string x)) w9 := ⟨(hb9.cell (by simp <;> omega)).trans hHeld.1, (hb9.cell (by simp <;> omega)).trans hHeld.2.1, (hb9.cell (by simp <;> omega)).trans hHeld.2.2⟩
    clear hHeld
    have hHeld := hX; clear hX
    refine hK.out _ _ (Or.inr hHeld) ?_
    clear hK K
    try simp only [Act.put, List.setIfInBounds_toArray]
    refine wpAnyL_one (i := 11) (by decide +kernel) (by rfl) (fun K hK => ?_)
    rw [if_pos (by rfl)]
    have hc9 : w9.cell? ⟨G, 0, none⟩ = some v := hHeld.1
    have hf9' : w9.heap[G]? = some (.cells #[v] 22 (0, 0)) := (hb9.block G (by omega)).trans hfa
    have hf9 : w9.frozen? ⟨G, 0, none⟩ = false := frozen_of_row _ _ _ _ _ hf9'
    clear hHeld
    go_simp
    refine hK.out _ _ (Or.inl (by decide +kernel)) ?_
    clear hK K
    try simp only [Act.put, List.setIfInBounds_toArray, List.set_cons_zero, List.set_cons_succ]
    refine wpAnyL_done (by decide +kernel) ?_ _
    gi_wp2
    have hbT : Below W.heap.size W wa := by
      subst hwa
      exact (below_undrew hb3).alloc hb3.size _
    refine ⟨((keeps_below hbT).trans ((keeps_own hOa hg9).trans (KeepsOthers.setCell _ _ _))).from _, trivial, ?_⟩
    have hR := VerInv.round hB ((hbT.mono (by omega)).trans (hb9.mono (by omega))) hf9' hO9
    have e : endTo sig (pre ++ [⟨(k, d), ⟨hk, hd⟩⟩]) = endTo sig pre ++ [C0] := by
      rw [endTo_snoc]
      show endTo sig pre ++ [Dg.chainB (sig.getD k ⟨#[]⟩) (15 - d)] = _
      rw [hgk.out, HC.out]
    rw [show (endTo sig pre ++ [C0]).length = (endTo sig pre).length + 1 from by simp] at hR
    show VerInv W3 G (endTo sig (pre ++ [⟨(k, d), ⟨hk, hd⟩⟩])) _
    rw [e]
    exact hR
  case done =>
    rintro D xs W hD hxs ⟨⟨v, hv, hO⟩, hB⟩ hK0
    rw [endTo_all m sig xs hxs] at hO
    have hel := hide (Dg.endsB_len m sig)
    obtain ⟨Av, cv, rfl, hcv, hSv⟩ := hO.strs
    rw [hel.out] at hv hcv
    have hez := hide (fun (s : ByteArray) (hs : s ∈ Dg.endsB m sig) => (Dg.endsB_size m sig hz16.out s hs : s.size ≤ 1099511627776))
    have hj := endsB_joined m sig hz16.out
    have hkz : (Dg.listB (Dg.endsB m sig)).size ≤ 1073741824 := by rw [listB_size]; decide
    generalize hKB : Dg.listB (Dg.endsB m sig) = KB at *
    have HKB := hide hKB; clear hKB
    have hlB : G < W.heap.size := (Array.getElem?_eq_some_iff.1 hv).1
    have hbW : Below w.heap.size w W := hbw.trans (hB.mono (by omega))
    have heW : Env W := he.next hbW
    have hmx : Tryz.prog.follows .mixedOrders = true := by kernel_rfl
    have hHeld : (fun W' : World => W'.cell? ⟨w.heap.size, 0, none⟩ = some (.int .i64 i) ∧ W'.cell? ⟨w.heap.size, 2, none⟩ = some (.slice A' n' c') ∧ W'.cell? ⟨G, 0, none⟩ = some (.slice Av 18 cv)) W.drew := ⟨(hB.cell (by simp; omega)).trans G0, (hB.cell (by simp; omega)).trans G2, by show W.cell? _ = _; rw [cell_of_row _ _ _ _ _ (0, 0) hv]; rfl⟩
    go_wp2
    refine wp_region_noPanic ?_
    refine wp_region_L (fun W' : World => W'.cell? ⟨w.heap.size, 0, none⟩ = some (.int .i64 i) ∧ W'.cell? ⟨w.heap.size, 2, none⟩ = some (.slice A' n' c') ∧ W'.cell? ⟨G, 0, none⟩ = some (.slice Av 18 cv)) 11 hmx ?_
    refine wpAnyL_take (i := 0) (f0 := 12) (v := ?_) rfl (by decide +kernel) (by decide +kernel) (by decide +kernel) (by decide +kernel) (by decide +kernel) (fun _ _ _ h => h) (Or.inl ⟨by rfl, ?_⟩) hHeld ?_
    rotate_left
    · intro wS hS; obtain ⟨hS1, hS2, hS3⟩ := hS; go_simp; (try with_reducible rfl)
    simp only [Act.put, List.setIfInBounds_toArray]
    refine wpAnyL_take (i := 1) (f0 := 12) (v := ?_) rfl (by decide +kernel) (by decide +kernel) (by decide +kernel) (by decide +kernel) (by decide +kernel) (fun _ _ _ h => h) (Or.inl ⟨by rfl, ?_⟩) hHeld ?_
    rotate_left
    · intro wS hS; obtain ⟨hS1, hS2, hS3⟩ := hS; go_simp; (try with_reducible rfl)
    simp only [Act.put]
    refine wpAnyL_take (i := 2) (f0 := 12) (v := ?_) rfl (by decide +kernel) (by decide +kernel) (by decide +kernel) (by decide +kernel) (by decide +kernel) (fun _ _ _ h => h) (Or.inl ⟨by rfl, ?_⟩) hHeld ?_
    rotate_left
    · intro wS hS; obtain ⟨hS1, hS2, hS3⟩ := hS; go_simp; (try with_reducible rfl)
    simp only [Act.put]
    refine wpAnyL_take (i := 3) (f0 := 12) (v := ?_) rfl (by decide +kernel) (by decide +kernel) (by decide +kernel) (by decide +kernel) (by decide +kernel) (fun _ _ _ h => h) (Or.inl ⟨by rfl, ?_⟩) hHeld ?_
    rotate_left
    · intro wS hS; obtain ⟨hS1, hS2, hS3⟩ := hS; go_simp; (try with_reducible rfl)
    simp only [Act.put]
    refine wpAnyL_take (i := 4) (f0 := 12) (v := ?_) rfl (by decide +kernel) (by decide +kernel) (by decide +kernel) (by decide +kernel) (by decide +kernel) (fun _ _ _ h => h) (Or.inl ⟨by rfl, ?_⟩) hHeld ?_
    rotate_left
    · intro wS hS; obtain ⟨hS1, hS2, hS3⟩ := hS; go_simp; (try with_reducible rfl)
    simp only [Act.put]
    refine wpAnyL_take (i := 5) (f0 := 12) (v := ?_) rfl (by decide +kernel) (by decide +kernel) (by decide +kernel) (by decide +kernel) (by decide +kernel) (fun _ _ _ h => h) (Or.inl ⟨by rfl, ?_⟩) hHeld ?_
    rotate_left
    · intro wS hS; obtain ⟨hS1, hS2, hS3⟩ := hS; go_simp; (try with_reducible rfl)
    simp only [Act.put]
    refine wpAnyL_take (i := 7) (f0 := 12) (v := ?_) rfl (by decide +kernel) (by decide +kernel) (by decide +kernel) (by decide +kernel) (by decide +kernel) (fun _ _ _ h => h) (Or.inl ⟨by rfl, ?_⟩) hHeld ?_
    rotate_left
    · intro wS hS; obtain ⟨hS1, hS2, hS3⟩ := hS; go_simp; (try with_reducible rfl)
    simp only [Act.put]
    refine wpAnyL_take (i := 8) (f0 := 12) (v := ?_) rfl (by decide +kernel) (by decide +kernel) (by decide +kernel) (by decide +kernel) (by decide +kernel) (fun _ _ _ h => h) (Or.inl ⟨by rfl, ?_⟩) hHeld ?_
    rotate_left
    · intro wS hS; obtain ⟨hS1, hS2, hS3⟩ := hS; go_simp; (try with_reducible rfl)
    simp only [Act.put]
    refine wpAnyL_one (i := 6) (by decide +kernel) (by rfl) (fun K hK => ?_)
    rw [if_pos (by rfl)]
    go_simp
    refine (of_of Av cv 18 (Dg.endsB m sig) hel.out KB HKB.out _ (heW.next (Below.refl _ _).drew) (by rw [hel.out]; decide) hj hez.out (hSv.below (Below.refl _ _).drew)).mono ?_
    rintro e w1 ⟨rfl, hb1⟩
    have hs1 : W.heap.size ≤ w1.heap.size := hb1.size
    have hX : (fun W' : World => W'.cell? ⟨w.heap.size, 0, none⟩ = some (.int .i64 i) ∧ W'.cell? ⟨w.heap.size, 2, none⟩ = some (.slice A' n' c') ∧ W'.cell? ⟨G, 0, none⟩ = some (.slice Av 18 cv)) w1 := ⟨(hb1.cell (by simp <;> omega)).trans hHeld.1, (hb1.cell (by simp <;> omega)).trans hHeld.2.1, (hb1.cell (by simp <;> omega)).trans hHeld.2.2⟩
    clear hHeld
    have hHeld := hX; clear hX
    refine hK.out _ _ (Or.inr hHeld) ?_
    clear hK K
    try simp only [Act.put, List.setIfInBounds_toArray, List.set_cons_zero, List.set_cons_succ]
    refine wpAnyL_one (i := 9) (by decide +kernel) (by rfl) (fun K hK => ?_)
    rw [if_pos (by rfl)]
    go_simp
    refine (check_of p N i KB A' c' n' path R hR.out w1 (heW.next (below_undrew hb1)) hl2'.out (by omega) hz2.out hkz (keepS (keepS hS2 hbW) (below_undrew hb1))).mono ?_
    rintro e w3 ⟨rfl, hb3⟩
    have hX : (fun W' : World => W'.cell? ⟨w.heap.size, 0, none⟩ = some (.int .i64 i) ∧ W'.cell? ⟨w.heap.size, 2, none⟩ = some (.slice A' n' c') ∧ W'.cell? ⟨G, 0, none⟩ = some (.slice Av 18 cv)) w3 := ⟨(hb3.cell (by simp <;> omega)).trans hHeld.1, (hb3.cell (by simp <;> omega)).trans hHeld.2.1, (hb3.cell (by simp <;> omega)).trans hHeld.2.2⟩
    clear hHeld
    have hHeld := hX; clear hX
    refine hK.out _ _ (Or.inr hHeld) ?_
    clear hK K
    try simp only [Act.put, List.setIfInBounds_toArray, List.set_cons_zero, List.set_cons_succ]
    refine wpAnyL_take (i := 10) (f0 := 12) (v := ?_) rfl (by decide +kernel) (by decide +kernel) (by decide +kernel) (by decide +kernel) (by decide +kernel) (fun _ _ _ h => h) (Or.inl ⟨by rfl, ?_⟩) hHeld ?_
    rotate_left
    · intro wS hS; obtain ⟨hS1, hS2, hS3⟩ := hS; go_simp; (try with_reducible rfl)
    simp only [Act.put, List.setIfInBounds_toArray]
    refine wpAnyL_done (by decide +kernel) ?_ _
    refine NoPanic.normal ?_
    go_wp2
    have hDW : D < W.heap.size := (Array.getElem?_eq_some_iff.1 hK0).1
    have hK3 : w3.heap[D]? = some (.deferred (some [])) := (hb3.block D (by omega)).trans ((hb1.block D (by simp; omega)).trans hK0)
    refine ⟨by simp, .inl ⟨_, _, rfl, run_takeDeferred (ds := []) hK3, ?_⟩⟩
    exact ⟨_, results_tmp rfl _ _ _, rfl, (hbW.trans (((below_undrew hb1).mono hbW.size).trans (hb3.mono (by have := hbW.size; omega)))).trans (belowK_b (w := w) (Nat.le_refl _) w3 D _ _ (by omega) hK3 rfl rfl)⟩
  case stop =>
    rintro D c pre W _ _ h _
    exact h.elim
/-- What Verify computes. -/
def verifyB (p m : ByteArray) (i : Int) (sig path : List ByteArray) : Bool :=
  decide (sig.length = 18) && decide (path.length ≤ 8) && allDig sig && allDig path && decide (0 ≤ i) && decide (i < ((2 ^ path.length : Nat) : Int)) && checkB p ((2 ^ path.length : Nat) : Int) i (Dg.listB (Dg.endsB m sig)) path
theorem verify_of (p m : ByteArray) (i : Int) (A A' : Option Addr) (n n' c c' : Nat) (sig path : List ByteArray) (w : World) (he : Env w) (hm : m.size ≤ 9223372036854775807) (hl : sig.length = n) (hz : ∀ s ∈ sig, s.size ≤ 1073741824) (hS : Strs w w.heap.size A sig)
    (hl2 : path.length = n') (hz2 : ∀ s ∈ path, s.size ≤ 1073741824) (hS2 : Strs w w.heap.size A' path) (hc : n ≤ c) (R : Bool) (hR : verifyB p m i sig path = R) :
    Calls Tryz.prog 12 #[.string p, .string m, .agg #[.int .i64 i, .slice A n c, .slice A' n' c']] w fun e w' => e = .returned (.bool R) ∧ Below w.heap.size w w' := by
  have hzz : ∀ s ∈ sig, s.size ≤ 4611686018427387904 := fun s hs => Nat.le_trans (hz s hs) (by decide)
  have hzz2 : ∀ s ∈ path, s.size ≤ 4611686018427387904 := fun s hs => Nat.le_trans (hz2 s hs) (by decide)
  subst hR
  unfold verifyB
  by_cases h1 : n = 18
  · subst h1
    rw [decide_eq_true hl, Bool.true_and]
    by_cases h2 : n' ≤ 8
    · rw [decide_eq_true (by rw [hl2]; exact h2), Bool.true_and]
      cases h3 : allDig sig with
      | false => exact verify_c p m i A A' n' c c' sig w h2 hl hzz hS h3
      | true =>
        cases h4 : allDig path with
        | false => exact verify_d p m i A A' n' c c' sig path w h2 hl hzz hS h3 hl2 hzz2 hS2 h4
        | true =>
          by_cases h5 : i < 0
          · rw [decide_eq_false (by omega)]
            exact verify_e p m i A A' n' c c' sig path w h2 hl hzz hS h3 hl2 hzz2 hS2 h4 h5
          · rw [decide_eq_true (by omega : 0 ≤ i)]
            rw [hl2]
            by_cases h6 : i < ((2 ^ n' : Nat) : Int)
            · rw [decide_eq_true h6]
              exact verify_g p m i A A' n' c c' sig path w he hm h2 hl hzz hS h3 hl2 hz2 hS2 h4 (2 ^ n') rfl (by omega) h6 hc _ rfl
            · rw [decide_eq_false h6]
              exact verify_f p m i A A' n' c c' sig path w h2 hl hzz hS h3 hl2 hzz2 hS2 h4 (2 ^ n') rfl (by omega)
    · rw [decide_eq_false (by rw [hl2]; exact h2)]
      exact verify_b p m i A A' n' c c' w (by omega)
  · rw [decide_eq_false (by rw [hl]; exact h1)]
    exact verify_a p m i A A' n n' c c' w h1
end Go.Proofs.YtadmidkpchonhaaGreatDoor
/- What Verify answers, in plain Lean: its own seals are accepted; what is accepted has its form. No program in sight. -/
namespace Go.Proofs.YtadmidkpchonhaaGreatDoor
open Go Go.RowKit
theorem isB_up (n : Nat) : ∀ (i : Nat) (d : ByteArray) (r : List ByteArray), Dg.isB d = true → Dg.isB (Dg.up n i d r) = true := by
  intro i d r hd
  by_cases h1 : n ≤ 1
  · rw [Dg.up_one _ _ _ _ h1]; exact hd
  · by_cases hi : i < Dg.half n
    · rw [Dg.up_fst _ _ _ _ (by omega) hi]; exact Dg.isB_listB _
    · rw [Dg.up_snd _ _ _ _ (by omega) hi]; exact Dg.isB_listB _
theorem verifyB_iff (p m : ByteArray) (i : Int) (sig path : List ByteArray) : verifyB p m i sig path = true ↔
    sig.length = 18 ∧ path.length ≤ 8 ∧ (∀ s ∈ sig, Dg.isB s = true) ∧ (∀ s ∈ path, Dg.isB s = true) ∧ 0 ≤ i ∧ i < ((2 ^ path.length : Nat) : Int) ∧ Dg.up (2 ^ path.length) i.toNat (Dg.leafB (Dg.listB (Dg.endsB m sig))) path.reverse = p := by
  unfold verifyB checkB allDig
  simp only [Bool.and_eq_true, decide_eq_true_iff, List.all_eq_true]
  constructor
  · rintro ⟨⟨⟨⟨⟨⟨h1, h2⟩, h3⟩, h4⟩, h5⟩, h6⟩, h7, h8, h9, h10⟩
    exact ⟨h1, h2, h3, h4, h5, h6, by rw [Int.toNat_natCast] at h10; exact h10⟩
  · rintro ⟨h1, h2, h3, h4, h5, h6, h7⟩
    have h8 : 2 ^ path.length ≤ 2 ^ 8 := Nat.pow_le_pow_right (by omega) h2
    refine ⟨⟨⟨⟨⟨⟨h1, h2⟩, h3⟩, h4⟩, h5⟩, h6⟩, ⟨by omega, h5, h6⟩, h4, ?_, by rw [Int.toNat_natCast]; exact h7⟩
    rw [Int.toNat_natCast, Dg.length_pow _ _ (by omega)]
theorem verifyB_self (s m : ByteArray) (h i : Nat) (hh : h ≤ 8) (hi : i < 2 ^ h) : verifyB (Dg.publicB s h) m i (Dg.sigB s i m) (Dg.sealPath s h i) = true := by
  have hl := Dg.sealPath_len s h i hi
  refine (verifyB_iff _ _ _ _ _).2 ⟨Dg.sigB_len s i m, by rw [hl]; exact hh, Dg.sigB_isB s i m, Dg.sealPath_isB s h i, by omega, by rw [hl]; omega, ?_⟩
  rw [hl, Int.toNat_natCast, Dg.endsB_sig]
  have h2 : i < (Dg.keysB s h).length := by rw [Dg.keysB_len]; exact hi
  have h3 := Dg.path_up (2 ^ h) (Dg.keysB s h) i h2 (Dg.keysB_len s h)
  rw [Dg.keysB_get s h i h2] at h3
  exact h3
theorem verifyB_digest {p m : ByteArray} {i : Int} {sig path : List ByteArray} (h : verifyB p m i sig path = true) : Dg.isB p = true := by
  obtain ⟨_, _, _, _, _, _, h7⟩ := (verifyB_iff _ _ _ _ _).1 h
  rw [← h7]
  exact isB_up _ _ _ _ (Dg.isB_listB _)
theorem verifyB_not {p m : ByteArray} {i : Int} {sig path : List ByteArray} (h : ¬ (sig.length = 18 ∧ path.length ≤ 8 ∧ 0 ≤ i ∧ i < ((2 ^ path.length : Nat) : Int) ∧ Dg.isB p = true)) : verifyB p m i sig path = false := by
  cases hv : verifyB p m i sig path with
  | false => rfl
  | true =>
    obtain ⟨h1, h2, _, _, h5, h6, _⟩ := (verifyB_iff _ _ _ _ _).1 hv
    exact absurd ⟨h1, h2, h5, h6, verifyB_digest hv⟩ h
theorem isB_publicB (s : ByteArray) (h : Nat) : Dg.isB (Dg.publicB s h) = true := Dg.isB_root _
theorem isB_empty : Dg.isB ⟨#[]⟩ = false := by decide
theorem isB_16 {l : List ByteArray} (h : ∀ s ∈ l, Dg.isB s = true) : ∀ s ∈ l, s.size = 16 := fun s hs => Dg.isB_len (h s hs)
theorem sigB_sz (s : ByteArray) (i : Nat) (m : ByteArray) : ∀ x ∈ Dg.sigB s i m, x.size ≤ 1073741824 := fun x hx => by rw [isB_16 (Dg.sigB_isB s i m) x hx]; decide
theorem sealPath_sz (s : ByteArray) (h i : Nat) : ∀ x ∈ Dg.sealPath s h i, x.size ≤ 1073741824 := fun x hx => by rw [isB_16 (Dg.sealPath_isB s h i) x hx]; decide
end Go.Proofs.YtadmidkpchonhaaGreatDoor
/- Shown of the reference: true where two different strings of the list have one digest. -/
namespace Go.Proofs.YtadmidkpchonhaaGreatDoor
open Go Go.RowKit Go.Sort
def pairAt (l : List ByteArray) (i k : Nat) : Prop := ∃ a b, l[i]? = some a ∧ l[k]? = some b ∧ a ≠ b ∧ Dg.sumB a = Dg.sumB b
theorem shown_pair {l : List ByteArray} (h : Dg.Shown l) : ∃ i k, k < i ∧ i < l.length ∧ pairAt l i k := by
  obtain ⟨a, ha, b, hb, hne, he⟩ := h
  obtain ⟨i, hi⟩ := List.mem_iff_getElem?.1 ha
  obtain ⟨k, hk⟩ := List.mem_iff_getElem?.1 hb
  rcases Nat.lt_trichotomy k i with h | h | h
  · exact ⟨i, k, h, (List.getElem?_eq_some_iff.1 hi).1, a, b, hi, hk, hne, he⟩
  · subst h
    exact absurd (Option.some.inj (hi.symm.trans hk)) hne
  · exact ⟨k, i, h, (List.getElem?_eq_some_iff.1 hk).1, b, a, hk, hi, hne.symm, he.symm⟩
theorem rsum_of (s r : ByteArray) (hr : Dg.sumB s = r) (hs : s.size ≤ 4611686018427387904) (w : World) :
    Calls Tryz.prog 51 #[.string s] w fun e w' => e = .returned (.string r) ∧ w = w' := by
  subst hr; exact rsum_any s hs w
theorem sum_ne {x y : ByteArray} (h : Dg.sumB x ≠ Dg.sumB y) : ((Dg.sumB x).toList == (Dg.sumB y).toList) = false := tl_false h
end Go.Proofs.YtadmidkpchonhaaGreatDoor
/- Power, chained, node, Digits of the reference of layer 3. -/
namespace Go.Proofs.YtadmidkpchonhaaGreatDoor
open Go Go.RowKit Go.Sort
theorem pow_lt62 (k n : Nat) (hk : k ≤ n) (hn : n ≤ 60) : 2 ^ k ≤ 1152921504606846976 := by
  have := Nat.pow_le_pow_right (n := 2) (by omega) (show k ≤ 60 by omega)
  have h2 : 2 ^ 60 = 1152921504606846976 := by decide
  omega
theorem rpower_any (n : Nat) (hn : n ≤ 60) (R : Nat) (hR : 2 ^ n = R) (w : World) :
    Calls Tryz.prog 22 #[.int .i64 n] w fun e w' => e = .returned (.int .i64 R) ∧ w = w' := by
  have HR := hide hR; clear hR
  go_enter Tryz.func22, Tryz.ntmps22
  go_wp2
  go_loop [3, 4] (fun o i => ∃ k : Nat, k ≤ n ∧ i = .int .i64 k ∧ ∃ P : Nat, Hid (2 ^ k = P) ∧ o = .int .i64 P) (fun _ i => n - (intOf i).toNat)
  case atStart => exact ⟨0, by omega, rfl, 1, rfl, rfl⟩
  case round =>
    obtain ⟨k, hk, rfl, P, hP, rfl⟩ := hrel
    have hb := pow_lt62 k n hk hn
    rw [hP.out] at hb
    by_cases hlt : k < n
    · go_wp2
      go_round
      case rel => exact ⟨k + 1, by omega, by go_num, 2 * P, by unfold Hid; rw [Nat.pow_succ, hP.out]; omega, by go_num⟩
      case measure => simp [intOf]; omega
    · obtain rfl : k = n := by omega
      obtain rfl : P = R := hP.out.symm.trans HR.out
      go_wp2
      go_ret
      exact ⟨rfl, rfl⟩
theorem chained_succ (s : ByteArray) (k : Nat) : Dg.chained s (k + 1) = Dg.chained s k ++ [Dg.chainB s (k + 1)] := by unfold Dg.chained; rw [List.range_succ, List.map_append]; rfl
theorem chained_zero (s : ByteArray) : Dg.chained s 0 = [s] := by unfold Dg.chained; simp [Dg.chainB_zero]
theorem chained_len (s : ByteArray) (k : Nat) : (Dg.chained s k).length = k + 1 := by unfold Dg.chained; rw [List.length_map, List.length_range]
theorem sNode_eq : Dg.sNode = ⟨#[110, 111, 100, 101]⟩ := rfl
/-- The digits as the reference collects them. -/
def digI (m : ByteArray) (k : Nat) : List Value := (List.range k).map fun j => .int .i64 (Dg.dig m j : Nat)
theorem digI_len (m : ByteArray) (k : Nat) : (digI m k).length = k := by rw [digI, List.length_map, List.length_range]
theorem digI_succ (m : ByteArray) (k : Nat) : digI m (k + 1) = digI m k ++ [.int .i64 (Dg.dig m k : Nat)] := by unfold digI; rw [List.range_succ, List.map_append]; rfl
theorem digI_get (m : ByteArray) (k j : Nat) (h : j < k) : (digI m k)[j]? = some (.int .i64 (Dg.dig m j : Nat)) := by unfold digI; rw [List.getElem?_map, List.getElem?_range h]; rfl
theorem intInfo : (Tryz.prog.info? 3).map (fun i => (i.zero, i.size, i.bytes)) = some (some (.int .i64 0), 1, 8) := by kernel_rfl
theorem digit_hex (d : Nat) (h : d < 16) : Dg.digit (Dg.hexDigit d) = d := by
  have : ∀ d, d < 16 → Dg.digit (Dg.hexDigit d) = d := by decide +kernel
  exact this d h
theorem rdigit_hex (c : UInt8) (d : Nat) (hd : d < 16) (hc : c = Dg.hexDigit d) (w : World) :
    Calls Tryz.prog 52 #[.int .u8 (c.toNat : Int)] w fun e w' => e = .returned (.int .i64 (d : Int)) ∧ w = w' := by
  have := digit_any c w
  rw [hc, digit_hex d hd] at this
  rw [hc]
  exact this
theorem step_i (w0 : World) {ops : Array Oper} {rest : List Oper} {o : Oper} {a : Act} {Q : Exit → Act → World → Prop} (hgd : o.guard = none) (sl x : Operand)
    (ho : o.op = .call { callee := .builtin .append, args := #[sl, x], argTypes := #[46, 46] })
    (z : Int) (B : Nat) (v : Value) (l : List Value) (hs : a.eval sl = v) (hown : OwnV w0 B 3 v l) (hx : a.eval x = .slice (some ⟨w0.heap.size, 0, none⟩) 1 1)
    (hlen : l.length < 1099511627776) (hB : B ≤ w0.heap.size)
    (h : ∀ v' w', OwnV w' B 3 v' (l ++ [.int .i64 z]) → Below B w0 w' → wpList Tryz.prog ops Q rest (a.put o.dst v') w') : wpList Tryz.prog ops Q (o :: rest) a (w0.alloc (.cells #[.int .i64 z] 3)) :=
  step_one _ hgd sl x 46 3 _ _ ho Tryz.underlying46 intInfo rfl B v _ hs (OwnV.alloc hown _) ⟨w0.heap.size, 0, none⟩ 1 (.int .i64 z) hx (by rw [cell_of_row _ _ 0 _ _ (0, 0) (heap_alloc_new _ _)]; rfl) rfl hlen (by omega) (by simp; omega) fun v' w' h1 h2 => h v' w' h1 (((Below.refl _ _).alloc hB _).trans h2)
theorem step_i2 (w0 : World) {ops : Array Oper} {rest : List Oper} {o : Oper} {a : Act} {Q : Exit → Act → World → Prop} (hgd : o.guard = none) (sl x : Operand)
    (ho : o.op = .call { callee := .builtin .append, args := #[sl, x], argTypes := #[46, 46] })
    (z y : Int) (B : Nat) (v : Value) (l : List Value) (hs : a.eval sl = v) (hown : OwnV w0 B 3 v l) (hx : a.eval x = .slice (some ⟨w0.heap.size, 0, none⟩) 2 2)
    (hlen : l.length < 1099511627776) (hB : B ≤ w0.heap.size)
    (h : ∀ v' w', OwnV w' B 3 v' (l ++ [.int .i64 z, .int .i64 y]) → Below B w0 w' → wpList Tryz.prog ops Q rest (a.put o.dst v') w') : wpList Tryz.prog ops Q (o :: rest) a (w0.alloc (.cells #[.int .i64 z, .int .i64 y] 3)) := by
  obtain ⟨i, h2, h3, h4, h5⟩ := info_parts intInfo
  have hown1 := OwnV.alloc hown (.cells #[.int .i64 z, .int .i64 y] 3)
  refine wpList_append_own _ hgd sl x 46 ho B 3 i (.int .i64 0) 1 8 Tryz.underlying46 h2 h3 h4 h5 rfl (by omega) v l.length l hs hown1 ⟨w0.heap.size, 0, none⟩ 2 2 [.int .i64 z, .int .i64 y] hx rfl ?_ ?_ (by unfold maxLen; omega) (by omega) (by simp; omega) fun v' w' hown' hg _ => h v' w' ?_ (((Below.refl _ _).alloc hB _).trans (below_own hown1 hg (by simp; omega)))
  · intro j u' hj
    rw [add_off0, cell_of_row _ _ _ _ _ (0, 0) (heap_alloc_new _ _), ← Array.getElem?_toList]
    exact hj
  · intro u' hu'
    rcases List.mem_cons.1 hu' with rfl | hu'
    · rfl
    · rw [List.mem_singleton.1 hu']; rfl
  · unfold OwnV
    rw [List.length_append]
    exact hown'
set_option maxHeartbeats 1000000 in
theorem rdigs_any (m : ByteArray) (hm : m.size ≤ 4611686018427387904) (w : World) :
    Calls Tryz.prog 23 #[.string m] w fun e w' => (∃ v, e = .returned v ∧ OwnV w' w.heap.size 3 v (digI m 18)) ∧ Below w.heap.size w w' := by
  have hsz := Dg.sumB_size m
  generalize hS : Dg.sumB m = S at *
  have HS := hide hS; clear hS
  go_enter Tryz.func23, Tryz.ntmps23
  go_wp2_with fail
  refine (rsum_of m S HS.out hm _).mono ?_
  rintro e w1 ⟨rfl, rfl⟩
  go_wp2
  go_loopw [4, 5, 6] (fun v r i wr => ∃ k : Nat, k ≤ 16 ∧ i = .int .i64 k ∧ Below w.heap.size w wr ∧ r = .int .i64 (Dg.restTo m k : Nat) ∧ OwnV wr w.heap.size 3 v (digI m k)) (fun _ _ i _ => 16 - (intOf i).toNat)
  case atStart => exact ⟨0, by omega, rfl, Below.refl _ _, rfl, OwnV.nil _ _ _⟩
  case round =>
    obtain ⟨k, hk, rfl, hb, rfl, hO⟩ := hrel
    have hrl := Dg.restTo_le m k
    by_cases hlt : k < 16
    · have hg := sumB_get m k hlt
      have hdl := Dg.dgt_lt m k
      have hrs : Dg.restTo m (k + 1) = Dg.restTo m k + (15 - Dg.dgt m k) := rfl
      have hds := digI_succ m k
      rw [Dg.dig_lo m k hlt] at hds
      rw [HS.out] at hg
      have hcl : (digI m k).length < 1099511627776 := by rw [digI_len]; omega
      generalize Dg.dgt m k = d at *
      have hg' := hide (get_of_L S k d hg (by omega)); have hrs' := hide hrs; have hds' := hide hds; clear hg hrs hds
      generalize Dg.restTo m k = r at *
      generalize digI m k = q at *
      go_wp2_with fail
      refine (rdigit_hex _ d hdl hg'.out _).mono ?_
      rintro e w1 ⟨rfl, rfl⟩
      go_wp2_with (at_builtin; refine step_i wr rfl (.tmp 20) (.tmp 22) rfl d w.heap.size _ q rfl hO rfl hcl hb.size ?_; intro v' w2 hO2 hb2)
      go_roundw
      case rel => exact ⟨k + 1, by omega, by go_num, hb.trans hb2, by rw [hrs'.out]; go_num, by rw [hds'.out]; exact hO2⟩
      case measure => simp [intOf]; omega
    · obtain rfl : k = 16 := by omega
      have hds := hide (digI_succ m 16)
      have hds2 := hide (digI_succ m 17)
      have hcl : (digI m 16).length < 1099511627776 := by rw [digI_len]; omega
      rw [Dg.dig_16] at hds
      rw [Dg.dig_17] at hds2
      generalize Dg.restTo m 16 = r at *
      have hE : Hid (digI m 18 = digI m 16 ++ [.int .i64 ((r : Int) / 16), .int .i64 ((r : Int) % 16)]) := by
        unfold Hid
        rw [hds2.out, hds.out, List.append_assoc]
        rfl
      generalize digI m 16 = q at *
      go_wp2_with (at_builtin; refine step_i2 wr rfl (.tmp 28) (.tmp 33) rfl ((r : Int) / 16) ((r : Int) % 16) w.heap.size _ q rfl hO rfl hcl hb.size ?_; intro v' w2 hO2 hb2)
      go_ret
      exact ⟨⟨_, rfl, by rw [hE.out]; exact hO2⟩, hb.trans hb2⟩
end Go.Proofs.YtadmidkpchonhaaGreatDoor
/- Same, Few of the reference of layer 3. -/
namespace Go.Proofs.YtadmidkpchonhaaGreatDoor
open Go Go.RowKit Go.Sort
theorem bcell {W w1 : World} (hb : Below W.heap.size W w1) : (∀ b o, b < W.heap.size → w1.cell? ⟨b, o, none⟩ = W.cell? ⟨b, o, none⟩) ∧ (∀ b o, b < W.heap.size → w1.frozen? ⟨b, o, none⟩ = W.frozen? ⟨b, o, none⟩) :=
  ⟨fun b o h => hb.cell (p := ⟨b, o, none⟩) h, fun b o h => hb.frozen (p := ⟨b, o, none⟩) h⟩
/-- Seals are equal. -/
def sameS (i j : Int) (a a' p p' : List ByteArray) : Bool := decide (i = j) && (Dg.same a a' && Dg.same p p')
theorem sameS_iff (i j : Int) (a a' p p' : List ByteArray) : sameS i j a a' p p' = true ↔ i = j ∧ a = a' ∧ p = p' := by
  unfold sameS
  rw [Bool.and_eq_true, Bool.and_eq_true, decide_eq_true_iff, Dg.same_iff, Dg.same_iff]
set_option maxHeartbeats 1000000 in
theorem rsame3_of (i j : Int) (A A' B B' : Option Addr) (c c' d d' n n' k k' : Nat) (a a' p p' : List ByteArray) (R : Bool) (hR : sameS i j a a' p p' = R) (w : World)
    (hn : a.length = n) (hn' : a'.length = n') (hk : p.length = k) (hk' : p'.length = k') (bn : n ≤ 1099511627776) (bn' : n' ≤ 1099511627776) (bk : k ≤ 1099511627776) (bk' : k' ≤ 1099511627776)
    (hA : Strs w w.heap.size A a) (hA' : Strs w w.heap.size A' a') (hB : Strs w w.heap.size B p) (hB' : Strs w w.heap.size B' p') :
    Calls Tryz.prog 11 #[.agg #[.int .i64 i, .slice A n c, .slice B k d], .agg #[.int .i64 j, .slice A' n' c', .slice B' k' d']] w fun e w' => e = .returned (.bool R) ∧ Below w.heap.size w w' := by
  have hW := (Below.refl w.heap.size w).alloc (Nat.le_refl _) (.cells #[.int .i64 i, .slice A n c, .slice B k d] 24)
  have hW2 := hW.alloc (by simp) (.cells #[.int .i64 j, .slice A' n' c', .slice B' k' d'] 24)
  subst hR
  unfold sameS
  have Hn := hide hn; have Hn' := hide hn'; have Hk := hide hk; have Hk' := hide hk'; clear hn hn' hk hk'
  generalize hs2 : Dg.same p p' = R2
  have Hs2 := hide hs2; clear hs2
  by_cases hij : i = j
  · subst hij
    have e1 : (i == i) = true := by simp
    rw [decide_eq_true rfl, Bool.true_and]
    go_enter Tryz.func11, Tryz.ntmps11
    cases hs : Dg.same a a' with
    | false =>
      have Hs := hide hs; clear hs
      go_wp2_with fail
      refine (same_of A A' c c' a a' n n' Hn.out Hn'.out false Hs.out _ (by omega) (by omega) (keepS hA hW2) (keepS hA' hW2)).mono ?_
      rintro e w1 ⟨rfl, hb1⟩
      go_wp2
      go_ret
      exact ⟨rfl, bnextA (hW) hb1⟩
    | true =>
      have Hs := hide hs; clear hs
      go_wp2_with fail
      refine (same_of A A' c c' a a' n n' Hn.out Hn'.out true Hs.out _ (by omega) (by omega) (keepS hA hW2) (keepS hA' hW2)).mono ?_
      rintro e w1 ⟨rfl, hb1⟩
      obtain ⟨hc, hf⟩ := bcell hb1
      go_wp2_with fail
      have hbT := bnextA hW hb1
      refine (same_of B B' d d' p p' k k' Hk.out Hk'.out R2 Hs2.out _ (by omega) (by omega) (keepS hB hbT) (keepS hB' hbT)).mono ?_
      rintro e w2 ⟨rfl, hb2⟩
      go_wp2
      go_ret
      exact ⟨by simp, bnext hbT hb2⟩
  · have e1 : (i == j) = false := by simpa using hij
    rw [decide_eq_false hij, Bool.false_and]
    go_enter Tryz.func11, Tryz.ntmps11
    go_wp2
    go_ret
    exact ⟨rfl, hW2⟩
def fewS (sig path : List ByteArray) : Bool := Dg.few sig 100 && Dg.few path 100
theorem fewS_iff (sig path : List ByteArray) : fewS sig path = true ↔ (sig.length ≤ 30 ∧ ∀ s ∈ sig, s.size ≤ 100) ∧ (path.length ≤ 30 ∧ ∀ s ∈ path, s.size ≤ 100) := by
  unfold fewS
  rw [Bool.and_eq_true, Dg.few_iff, Dg.few_iff]
  constructor
  · rintro ⟨⟨h1, h2⟩, h3, h4⟩
    exact ⟨⟨h1, fun s hs => by have := h2 s hs; omega⟩, h3, fun s hs => by have := h4 s hs; omega⟩
  · rintro ⟨⟨h1, h2⟩, h3, h4⟩
    exact ⟨⟨h1, fun s hs => by have := h2 s hs; omega⟩, h3, fun s hs => by have := h4 s hs; omega⟩
theorem few_end {a : List ByteArray} {j : Nat} (h : Hid (∀ s ∈ a.take j, s.size ≤ 100)) (hj : j = a.length ∨ j = 30) (hl : a.length ≤ 30) : ∀ s ∈ a, s.size ≤ 100 := fun s hs => by
  have h1 := h.out
  rw [List.take_of_length_le (by omega)] at h1
  exact h1 s hs
theorem few_res {a p : List ByteArray} {R : Bool} {j l : Nat} (HR : Hid (fewS a p = R)) (h1 : Hid (∀ s ∈ a.take j, s.size ≤ 100)) (h2 : Hid (∀ s ∈ p.take l, s.size ≤ 100)) (e1 : Hid (j = a.length ∨ j = 30)) (e2 : Hid (l = p.length ∨ l = 30)) (la : a.length ≤ 30) : decide ((p.length : Int) ≤ 30) = R := by
  rw [← HR.out, show decide ((p.length : Int) ≤ 30) = decide (p.length ≤ 30) from decide_eq_decide.2 (by omega)]
  by_cases lp : p.length ≤ 30
  · rw [decide_eq_true lp]
    exact ((fewS_iff a p).2 ⟨⟨la, few_end h1 e1.out la⟩, lp, few_end h2 e2.out lp⟩).symm
  · rw [decide_eq_false lp]
    cases hf : fewS a p with
    | false => rfl
    | true => exact absurd ((fewS_iff a p).1 hf).2.1 lp
theorem few_res2 {a p : List ByteArray} {R : Bool} (HR : Hid (fewS a p = R)) (la : ¬ a.length ≤ 30) : false = R := by
  rw [← HR.out]
  cases hf : fewS a p with
  | false => rfl
  | true => exact absurd ((fewS_iff a p).1 hf).1.1 la
theorem take_step {a : List ByteArray} {j : Nat} {x : ByteArray} (h : Hid (∀ s ∈ a.take j, s.size ≤ 100)) (ht : Hid (a.take (j + 1) = a.take j ++ [x])) (hx : x.size ≤ 100) : Hid (∀ s ∈ a.take (j + 1), s.size ≤ 100) := by
  unfold Hid
  rw [ht.out]
  intro s hs'
  rcases List.mem_append.1 hs' with h1 | h1
  · exact h.out s h1
  · obtain rfl : s = x := by simpa using h1
    exact hx
set_option maxRecDepth 100000 in
set_option maxHeartbeats 4000000 in
theorem rfew3_of (i : Int) (A B : Option Addr) (c d n k : Nat) (a p : List ByteArray) (R : Bool) (hR : fewS a p = R) (w : World)
    (hn : a.length = n) (hk : p.length = k) (bn : n ≤ 9223372036854775807) (bk : k ≤ 9223372036854775807) (za : ∀ s ∈ a, s.size ≤ 9223372036854775807) (zp : ∀ s ∈ p, s.size ≤ 9223372036854775807)
    (hA : Strs w w.heap.size A a) (hB : Strs w w.heap.size B p) :
    Calls Tryz.prog 6 #[.agg #[.int .i64 i, .slice A n c, .slice B k d]] w fun e w' => e = .returned (.bool R) ∧ Below w.heap.size w w' := by
  have hW := (Below.refl w.heap.size w).alloc (Nat.le_refl _) (.cells #[.int .i64 i, .slice A n c, .slice B k d] 24)
  have hSA := keepS hA hW
  have hSB := keepS hB hW
  have HR := hide hR; clear hR
  have Za := hide za; have Zp := hide zp; clear za zp
  subst hn hk
  go_enter Tryz.func6, Tryz.ntmps6
  go_wp2
  go_loop [3] (fun iv => ∃ j : Nat, j ≤ a.length ∧ j ≤ 30 ∧ iv = .int .i64 j ∧ Hid (∀ s ∈ a.take j, s.size ≤ 100)) (fun iv => 30 - (intOf iv).toNat)
  case atStart => exact ⟨0, by omega, by omega, rfl, by unfold Hid; simp⟩
  case round =>
    obtain ⟨j, hj, hj30, rfl, hall⟩ := hrel
    by_cases hlt : j < a.length ∧ j < 30
    · obtain ⟨hlt, hlt30⟩ := hlt
      obtain ⟨b, off, rfl, hbl, hcell⟩ := hSA.get hlt
      have hsz := Za.out a[j] (List.getElem_mem hlt)
      have hts := hide (List.take_succ_eq_append_getElem hlt)
      have hm := hide (List.getElem_mem hlt)
      generalize a[j] = x at *
      by_cases hx : x.size ≤ 100
      · go_wp2
        go_round
        case rel => exact ⟨j + 1, by omega, by omega, by go_num, take_step hall hts hx⟩
        case measure => simp [intOf]; omega
      · go_wp2
        go_ret
        refine ⟨ret_bool ?_, hW⟩
        rw [← HR.out]
        cases hf : fewS a p with
        | false => rfl
        | true => exact absurd (((fewS_iff a p).1 hf).1.2 x hm.out) hx
    · have hex := hide (show j = a.length ∨ j = 30 by omega)
      by_cases hlt1 : j < a.length
      · have hlt30 : ¬ j < 30 := by omega
        go_wp2
        go_loop [4] (fun iv => ∃ l : Nat, l ≤ p.length ∧ l ≤ 30 ∧ iv = .int .i64 l ∧ Hid (∀ s ∈ p.take l, s.size ≤ 100)) (fun iv => 30 - (intOf iv).toNat)
        case atStart => exact ⟨0, by omega, by omega, rfl, by unfold Hid; simp⟩
        case round =>
          obtain ⟨l, hl, hl30, rfl, hall2⟩ := hrel
          by_cases hlt2 : l < p.length ∧ l < 30
          · obtain ⟨hlt2, hlt30⟩ := hlt2
            obtain ⟨b, off, rfl, hbl, hcell⟩ := hSB.get hlt2
            have hsz := Zp.out p[l] (List.getElem_mem hlt2)
            have hts := hide (List.take_succ_eq_append_getElem hlt2)
            have hm := hide (List.getElem_mem hlt2)
            generalize p[l] = x at *
            by_cases hx : x.size ≤ 100
            · go_wp2
              go_round
              case rel => exact ⟨l + 1, by omega, by omega, by go_num, take_step hall2 hts hx⟩
              case measure => simp [intOf]; omega
            · go_wp2
              go_ret
              refine ⟨ret_bool ?_, hW⟩
              rw [← HR.out]
              cases hf : fewS a p with
              | false => rfl
              | true => exact absurd (((fewS_iff a p).1 hf).2.2 x hm.out) hx
          · have hex2 := hide (show l = p.length ∨ l = 30 by omega)
            by_cases hlt1 : l < p.length
            · have hlt30 : ¬ l < 30 := by omega
              by_cases la : a.length ≤ 30
              · exact absurd la (by omega)
              · have la' := hide la
                have la1 : decide ((a.length : Int) ≤ 30) = false := decide_eq_false (by omega)
                clear la
                go_wp2
                go_ret
                exact ⟨ret_bool (few_res2 HR la'.out), hW⟩
            · by_cases la : a.length ≤ 30
              · exact absurd la (by omega)
              · have la' := hide la
                have la1 : decide ((a.length : Int) ≤ 30) = false := decide_eq_false (by omega)
                clear la
                go_wp2
                go_ret
                exact ⟨ret_bool (few_res2 HR la'.out), hW⟩
      · go_wp2
        go_loop [4] (fun iv => ∃ l : Nat, l ≤ p.length ∧ l ≤ 30 ∧ iv = .int .i64 l ∧ Hid (∀ s ∈ p.take l, s.size ≤ 100)) (fun iv => 30 - (intOf iv).toNat)
        case atStart => exact ⟨0, by omega, by omega, rfl, by unfold Hid; simp⟩
        case round =>
          obtain ⟨l, hl, hl30, rfl, hall2⟩ := hrel
          by_cases hlt2 : l < p.length ∧ l < 30
          · obtain ⟨hlt2, hlt30⟩ := hlt2
            obtain ⟨b, off, rfl, hbl, hcell⟩ := hSB.get hlt2
            have hsz := Zp.out p[l] (List.getElem_mem hlt2)
            have hts := hide (List.take_succ_eq_append_getElem hlt2)
            have hm := hide (List.getElem_mem hlt2)
            generalize p[l] = x at *
            by_cases hx : x.size ≤ 100
            · go_wp2
              go_round
              case rel => exact ⟨l + 1, by omega, by omega, by go_num, take_step hall2 hts hx⟩
              case measure => simp [intOf]; omega
            · go_wp2
              go_ret
              refine ⟨ret_bool ?_, hW⟩
              rw [← HR.out]
              cases hf : fewS a p with
              | false => rfl
              | true => exact absurd (((fewS_iff a p).1 hf).2.2 x hm.out) hx
          · have hex2 := hide (show l = p.length ∨ l = 30 by omega)
            by_cases hlt1 : l < p.length
            · have hlt30 : ¬ l < 30 := by omega
              by_cases la : a.length ≤ 30
              · go_wp2
                go_ret
                exact ⟨ret_bool (few_res HR hall hall2 hex hex2 la), hW⟩
              · exact absurd (show a.length ≤ 30 by omega) la
            · by_cases la : a.length ≤ 30
              · go_wp2
                go_ret
                exact ⟨ret_bool (few_res HR hall hall2 hex hex2 la), hW⟩
              · exact absurd (show a.length ≤ 30 by omega) la
end Go.Proofs.YtadmidkpchonhaaGreatDoor
/- head and short of pandectlaw03. -/
namespace Go.Proofs.YtadmidkpchonhaaGreatDoor
open Go Go.RowKit Go.Sort
theorem public_of (s : ByteArray) (H : Int) (h : Nat) (hH : H = h) (hs : s.size ≤ 1073741824) (hh : h ≤ 8) (R : ByteArray) (hR : Dg.publicB s h = R) (w : World) (he : Env w) :
    Calls Tryz.prog 7 #[.string s, .int .i64 H] w fun e w' => e = .returned (.tuple #[.string R, .int .i64 0]) ∧ Below w.heap.size w w' := by
  subst hH; exact public_any s h hs hh R hR w he
/-- What Sign hands back, with open texts. -/
def SealIs (i : Nat) (h : Nat) (sig path : List ByteArray) (w : World) (e : Ending) (w' : World) : Prop :=
  ∃ A c A' c', e = .returned (.tuple #[.agg #[.int .i64 i, .slice A 18 c, .slice A' h c'], .int .i64 0]) ∧ 18 ≤ c ∧ h ≤ c' ∧ Strs w' w'.heap.size A sig ∧ Strs w' w'.heap.size A' path ∧ Below w.heap.size w w'
theorem sign_of (s m : ByteArray) (H I : Int) (h i : Nat) (hH : H = h) (hI : I = i) (hs : s.size ≤ 1073741824) (hm : m.size ≤ 9223372036854775807) (hh : h ≤ 8) (hi : i < 2 ^ h) (sig path : List ByteArray) (h1 : Dg.sigB s i m = sig) (h2 : Dg.sealPath s h i = path) (w : World) (he : Env w) :
    Calls Tryz.prog 9 #[.string s, .int .i64 H, .int .i64 I, .string m] w (SealIs i h sig path w) := by
  subst hH hI h1 h2; exact sign_any s m h i hs hm hh hi w he
def xsec : ByteArray := ⟨#[115, 101, 99, 114, 101, 116]⟩
def xmes : ByteArray := ⟨#[109, 101, 115, 115, 97, 103, 101]⟩
theorem ex3 : ∃ (P : ByteArray) (SG PT : List ByteArray), (Dg.publicB xsec 2 = P ∧ Dg.sigB xsec 3 xmes = SG ∧ Dg.sealPath xsec 2 3 = PT) ∧ SG.length = 18 ∧ PT.length = 2 ∧ (∀ s ∈ SG, s.size ≤ 1073741824) ∧ (∀ s ∈ PT, s.size ≤ 1073741824) ∧ verifyB P xmes 3 SG PT = true :=
  ⟨_, _, _, ⟨rfl, rfl, rfl⟩, Dg.sigB_len _ _ _, Dg.sealPath_len _ _ _ (by decide), sigB_sz _ _ _, sealPath_sz _ _ _, verifyB_self xsec xmes 2 3 (by decide) (by decide)⟩
theorem cells3 {w : World} {g : Nat} {a b c : Value} {T : TypeId} (h : w.heap[g]? = some (.cells #[a, b, c] T (0, 0))) : w.cell? ⟨g, 0, none⟩ = some a ∧ w.cell? ⟨g, 1, none⟩ = some b ∧ w.cell? ⟨g, 2, none⟩ = some c := by
  refine ⟨?_, ?_, ?_⟩ <;> (rw [cell_of_row _ _ _ _ _ (0, 0) h]; rfl)
theorem alloc3 (w : World) (A B C : Obj) : (((w.alloc A).alloc B).alloc C).heap[w.heap.size]? = some A ∧ (((w.alloc A).alloc B).alloc C).heap[w.heap.size + 1]? = some B ∧ (((w.alloc A).alloc B).alloc C).heap[w.heap.size + 1 + 1]? = some C ∧ Below w.heap.size w (((w.alloc A).alloc B).alloc C) := by
  have s1 : (w.alloc A).heap.size = w.heap.size + 1 := by simp
  have s2 : ((w.alloc A).alloc B).heap.size = w.heap.size + 1 + 1 := by simp
  have a1 := heap_alloc_new w A
  have a2 := heap_alloc_new (w.alloc A) B
  have a3 := heap_alloc_new ((w.alloc A).alloc B) C
  rw [s1] at a2
  rw [s2] at a3
  have b12 : Below (w.heap.size + 1) (w.alloc A) (((w.alloc A).alloc B).alloc C) := ((Below.refl _ _).alloc (by simp) _).alloc (by simp) _
  have b23 : Below (w.heap.size + 1 + 1) ((w.alloc A).alloc B) (((w.alloc A).alloc B).alloc C) := (Below.refl _ _).alloc (by simp) _
  exact ⟨(b12.block _ (by omega)).trans a1, (b23.block _ (by omega)).trans a2, a3, (((Below.refl _ _).alloc (Nat.le_refl _) _).alloc (by simp) _).alloc (by simp; omega) _⟩
set_option maxRecDepth 100000 in
set_option maxHeartbeats 4000000 in
theorem head3_any (w : World) (he : Env w) :
    Calls Tryz.prog 4 #[] w fun e w' => e = .returned (.bool true) ∧ Below w.heap.size w w' := by
  obtain ⟨P, SG, PT, ⟨x1, x2, x3⟩, l1, l2, z1, z2, hv⟩ := ex3
  have X1 := hide x1; have X2 := hide x2; have X3 := hide x3; have L1 := hide l1; have L2 := hide l2; have Z1 := hide z1; have Z2 := hide z2; have HV := hide hv
  clear x1 x2 x3 l1 l2 z1 z2 hv
  go_enter Tryz.func4, Tryz.ntmps4
  have hb := Below.refl w.heap.size w
  go_wp2_with fail
  refine (public_of xsec 2 2 rfl (by decide) (by decide) P X1.out _ he).mono ?_
  rintro e w1 ⟨rfl, hb1⟩
  replace he := he.next hb1
  replace hb := bnext hb hb1; clear hb1
  go_wp2_with fail
  refine (public_bad _ 9 (Or.inr (by decide)) _).mono ?_
  rintro e w2 ⟨rfl, hb2⟩
  replace he := he.next hb2
  replace hb := bnext hb hb2; clear hb2
  go_wp2_with fail
  refine (sign_of xsec xmes 2 3 2 3 rfl rfl (by decide) (by decide) (by decide) (by decide) SG PT X2.out X3.out _ he).mono ?_
  rintro e w3 ⟨A, c, A', c', rfl, hc, hc', hS, hS', hb3⟩
  replace he := he.next hb3
  replace hb := bnext hb hb3; clear hb3
  obtain ⟨b, off, rfl, _, _⟩ := hS.get (k := 0) (by rw [L1.out]; decide)
  obtain ⟨b', off', rfl, _, _⟩ := hS'.get (k := 0) (by rw [L2.out]; decide)
  go_wp2_with fail
  refine (sign_bad_i _ _ 2 4 4 (by decide) (by decide) (Or.inr (by decide)) _).mono ?_
  rintro e w4 ⟨rfl, hb4⟩
  have hr := (hb4.block w3.heap.size (by simp)).trans (heap_alloc_new w3 (.cells #[.int .i64 3, .slice (some ⟨b, off, none⟩) 18 c, .slice (some ⟨b', off', none⟩) 2 c'] 24))
  have hbz := bnextA hb hb4
  have hSz := keepS hS (bnextA (Below.refl _ _) hb4)
  have hSz' := keepS hS' (bnextA (Below.refl _ _) hb4)
  have hez := he.next (bnextA (Below.refl _ _) hb4)
  have hq0 : w4.cell? ⟨w3.heap.size, 0, none⟩ = some (.int .i64 3) := by rw [cell_of_row _ _ _ _ _ (0, 0) hr]; rfl
  have hq1 : w4.cell? ⟨w3.heap.size, 1, none⟩ = some (.slice (some ⟨b, off, none⟩) 18 c) := by rw [cell_of_row _ _ _ _ _ (0, 0) hr]; rfl
  have hq2 : w4.cell? ⟨w3.heap.size, 2, none⟩ = some (.slice (some ⟨b', off', none⟩) 2 c') := by rw [cell_of_row _ _ _ _ _ (0, 0) hr]; rfl
  have hl4 : w3.heap.size < w4.heap.size := (Array.getElem?_eq_some_iff.1 hr).1
  generalize w3.heap.size = q at *
  have hl5 : q < w4.heap.size + 1 := by omega
  have hl6 : q < w4.heap.size + 1 + 1 := by omega
  have hl7 : q < w4.heap.size + 1 + 1 + 1 := by omega
  have s1 : ∀ w, (Instr.slice 22 (.slice (some ⟨b', off', none⟩) 2 c') none (some (.int .i64 1)) none).run Tryz.prog w = .ok (.slice (some ⟨b', off', none⟩) 1 c') w := fun w => slice_to _ 2 c' 1 (by omega) w
  have s2 : ∀ w, (Instr.slice 22 (.slice (some ⟨b, off, none⟩) 18 c) (some (.int .i64 1)) none none).run Tryz.prog w = .ok (.slice (offA (some ⟨b, off, none⟩) 1 c) 17 (c - 1)) w := fun w => slice_from _ 18 c 1 (by omega) w
  have hd1 := Strs.drop hSz (by rw [L1.out]; exact hc) 1
  have hd2 := Strs.take hSz' 1
  generalize offA (some ⟨b, off, none⟩) 1 c = A2 at *
  have hr4 := hr
  clear hb hb4 hr hS hS' he
  go_wp2_with fail
  obtain ⟨_, ra, rb, hb5⟩ := alloc3 w4 (.cells #[.int .i64 0, .slice none 0 0, .slice none 0 0] 24) (.cells #[.int .i64 3, .slice (some ⟨b, off, none⟩) 18 c, .slice (some ⟨b', off', none⟩) 1 c'] 24) (.cells #[.int .i64 3, .slice A2 17 (c - 1), .slice (some ⟨b', off', none⟩) 2 c'] 24)
  have rq : w4.heap[q]? = some (.cells #[.int .i64 3, .slice (some ⟨b, off, none⟩) 18 c, .slice (some ⟨b', off', none⟩) 2 c'] 24) := hr4
  replace rq := (hb5.block q hl4).trans rq
  replace hbz := bnext hbz hb5
  replace hez := hez.next hb5
  replace hSz := keepS hSz hb5
  replace hSz' := keepS hSz' hb5
  replace hd1 := keepS hd1 hb5
  replace hd2 := keepS hd2 hb5
  clear hq0 hq1 hq2 s1 s2 hb5
  generalize (((w4.alloc (.cells #[.int .i64 0, .slice none 0 0, .slice none 0 0] 24)).alloc (.cells #[.int .i64 3, .slice (some ⟨b, off, none⟩) 18 c, .slice (some ⟨b', off', none⟩) 1 c'] 24)).alloc (.cells #[.int .i64 3, .slice A2 17 (c - 1), .slice (some ⟨b', off', none⟩) 2 c'] 24)) = W5 at *
  generalize w4.heap.size = q4 at *
  refine (verify_of P xmes 3 _ _ 18 2 c c' SG PT _ hez (by decide) L1.out Z1.out hSz L2.out Z2.out hSz' hc true HV.out).mono ?_
  rintro e w6 ⟨rfl, hb6⟩
  have rq6 := (hb6.block q (Array.getElem?_eq_some_iff.1 rq).1).trans rq
  have ra6 := (hb6.block _ (Array.getElem?_eq_some_iff.1 ra).1).trans ra
  have rb6 := (hb6.block _ (Array.getElem?_eq_some_iff.1 rb).1).trans rb
  replace hbz := bnext hbz hb6
  replace hez := hez.next hb6
  replace hSz := keepS hSz hb6
  replace hSz' := keepS hSz' hb6
  replace hd1 := keepS hd1 hb6
  replace hd2 := keepS hd2 hb6
  obtain ⟨f1, f2, f3⟩ := cells3 ra6
  clear hb6 rq ra rb
  go_wp2_with fail
  refine (verify_of P xmes 3 _ _ 18 1 c c' SG (PT.take 1) _ hez (by decide) L1.out Z1.out hSz (by rw [List.length_take, L2.out]; rfl) (fun x hx => Z2.out x (List.mem_of_mem_take hx)) hd2 hc false (verifyB_not (fun hx => absurd hx.2.2.2.1 (by rw [List.length_take, L2.out]; decide)))).mono ?_
  rintro e w7 ⟨rfl, hb7⟩
  have rq7 := (hb7.block q (Array.getElem?_eq_some_iff.1 rq6).1).trans rq6
  have rb7 := (hb7.block _ (Array.getElem?_eq_some_iff.1 rb6).1).trans rb6
  replace hbz := bnext hbz hb7
  replace hez := hez.next hb7
  replace hSz := keepS hSz hb7
  replace hSz' := keepS hSz' hb7
  replace hd1 := keepS hd1 hb7
  obtain ⟨g1, g2, g3⟩ := cells3 rb7
  clear hb7 f1 f2 f3
  go_wp2_with fail
  refine (verify_of P xmes 3 _ _ 17 2 (c - 1) c' (SG.drop 1) PT _ hez (by decide) (by rw [List.length_drop, L1.out]) (fun x hx => Z1.out x (List.mem_of_mem_drop hx)) hd1 L2.out Z2.out hSz' (by omega) false (verifyB_not (fun hx => absurd hx.1 (by rw [List.length_drop, L1.out]; decide)))).mono ?_
  rintro e w8 ⟨rfl, hb8⟩
  have rq8 := (hb8.block q (Array.getElem?_eq_some_iff.1 rq7).1).trans rq7
  replace hbz := bnext hbz hb8
  replace hez := hez.next hb8
  replace hSz := keepS hSz hb8
  replace hSz' := keepS hSz' hb8
  obtain ⟨h1, h2, h3⟩ := cells3 rq8
  clear hb8 g1 g2 g3
  go_wp2_with fail
  refine (verify_of ⟨#[]⟩ xmes 3 _ _ 18 2 c c' SG PT _ hez (by decide) L1.out Z1.out hSz L2.out Z2.out hSz' hc false (verifyB_not (fun hx => absurd hx.2.2.2.2 (by decide)))).mono ?_
  rintro e w9 ⟨rfl, hb9⟩
  go_wp2
  go_ret
  exact ⟨rfl, bnext hbz hb9⟩
end Go.Proofs.YtadmidkpchonhaaGreatDoor
/- What the laws on seals ask: short; heights and indices. -/
namespace Go.Proofs.YtadmidkpchonhaaGreatDoor
open Go Go.RowKit Go.Sort
def shortB (l : List ByteArray) : Bool := decide (∀ s ∈ l, s.size ≤ 300)
theorem shortB_iff (l : List ByteArray) : shortB l = true ↔ ∀ s ∈ l, s.size ≤ 300 := by unfold shortB; exact decide_eq_true_iff
theorem short3_of (A : Option Addr) (c k : Nat) (l : List ByteArray) (R : Bool) (hk : l.length = k) (hR : shortB l = R) (w : World) (hl : k ≤ 9223372036854775807) (hs : ∀ s ∈ l, s.size ≤ 9223372036854775807) (hS : Strs w w.heap.size A l) :
    Calls Tryz.prog 5 #[.slice A k c] w fun e w' => e = .returned (.bool R) ∧ w = w' := by
  subst hk
  have HR := hide hR; clear hR
  have Hs := hide hs; clear hs
  go_enter Tryz.func5, Tryz.ntmps5
  go_wp2
  go_loop [3] (fun i => ∃ k : Nat, k ≤ l.length ∧ i = .int .i64 k ∧ Hid (∀ s ∈ l.take k, s.size ≤ 300)) (fun i => l.length - (intOf i).toNat)
  case atStart => exact ⟨0, by omega, rfl, by unfold Hid; simp⟩
  case round =>
    obtain ⟨k, hk, rfl, hall⟩ := hrel
    by_cases hlt : k < l.length
    · obtain ⟨b, off, rfl, hbl, hcell⟩ := hS.get hlt
      have hsz := Hs.out l[k] (List.getElem_mem hlt)
      have hts := hide (List.take_succ_eq_append_getElem hlt)
      have hm := hide (List.getElem_mem hlt)
      generalize l[k] = x at *
      by_cases hx : x.size ≤ 300
      · go_wp2
        go_round
        case rel =>
          refine ⟨k + 1, by omega, by go_num, ?_⟩
          unfold Hid
          rw [hts.out]
          intro s hs'
          rcases List.mem_append.1 hs' with h | h
          · exact hall.out s h
          · obtain rfl : s = x := by simpa using h
            exact hx
        case measure => simp [intOf]; omega
      · go_wp2
        go_ret
        refine ⟨ret_bool ?_, rfl⟩
        rw [← HR.out]
        cases hf : shortB l with
        | false => rfl
        | true => exact absurd ((shortB_iff l).1 hf x hm.out) hx
    · obtain rfl : k = l.length := by omega
      go_wp2
      go_ret
      refine ⟨ret_bool ?_, rfl⟩
      have h1 := hall.out
      rw [List.take_length] at h1
      rw [← HR.out, (shortB_iff l).2 h1]
/-- A literal of texts, short or not. -/
theorem short3_new (l : List ByteArray) (cs : Array Value) (T : TypeId) (k c : Nat) (hk : l.length = k) (h8 : k ≤ 8) (h : ∀ s ∈ l, s.size ≤ 9223372036854775807) (R : Bool) (hR : shortB l = R) (w : World) (hcs : cs.toList = l.map .string) (n : Nat) (hn : w.heap.size = n) :
    Calls Tryz.prog 5 #[.slice (some ⟨n, 0, none⟩) k c] (w.alloc (.cells cs T)) fun e w' => e = .returned (.bool R) ∧ w.alloc (.cells cs T) = w' := by
  subst hn
  exact short3_of _ c k l R hk hR _ (by omega) h (Strs.new _ _ _ _ hcs)
theorem head3_of (w : World) (he : Env w) :
    Calls Tryz.prog 4 #[] w fun e w' => e = .returned (.bool true) ∧ Below w.heap.size w w' := head3_any w he
theorem short2 {a b : ByteArray} (h : shortB [a, b] = true) : a.size ≤ 300 ∧ b.size ≤ 300 := by
  have := (shortB_iff _).1 h
  exact ⟨this a (by simp), this b (by simp)⟩
theorem short3 {a b c : ByteArray} (h : shortB [a, b, c] = true) : a.size ≤ 300 ∧ b.size ≤ 300 ∧ c.size ≤ 300 := by
  have := (shortB_iff _).1 h
  exact ⟨this a (by simp), this b (by simp), this c (by simp)⟩
theorem row_next {w w' : World} {g : Nat} {o : Obj} (h : w.heap[g]? = some o) (hb : Below w.heap.size w w') : w'.heap[g]? = some o := (hb.block g (Array.getElem?_eq_some_iff.1 h).1).trans h
theorem row_new {w w' : World} {o : Obj} (hb : Below (w.alloc o).heap.size (w.alloc o) w') : w'.heap[w.heap.size]? = some o := row_next (heap_alloc_new w o) hb
end Go.Proofs.YtadmidkpchonhaaGreatDoor
/- Several slices of the call's own at once, in blocks apart: appends to one of them leave the others. Elements of one cell. No conditions. -/
namespace Go.Proofs.YtadmidkpchonhaaGreatDoor
open Go Go.RowKit Go.Sort
/-- The slices rs (value, element type, cells) are the call's own from block B on, and lie in blocks apart. -/
structure OwnL (W : World) (B : Nat) (rs : List (Value × TypeId × List Value)) : Prop where
  own : ∀ r ∈ rs, OwnV W B r.2.1 r.1 r.2.2
  apart : rs.Pairwise fun a b => ∀ g, a.1.ownBlock = some g → b.1.ownBlock ≠ some g
/-- A row of strings. -/
def sR (v : Value) (l : List ByteArray) : Value × TypeId × List Value := (v, 9, l.map .string)
theorem OwnV.lt {W : World} {B g : Nat} {e : TypeId} {v : Value} {xs : List Value} (h : OwnV W B e v xs) (hg : v.ownBlock = some g) : B ≤ g ∧ g < W.heap.size := by
  rcases h.2 with ⟨rfl, _⟩ | ⟨g', cap, cur, rfl, hb, hh, _⟩
  · simp [Value.ownBlock] at hg
  · obtain rfl : g' = g := by simpa [Value.ownBlock] using hg
    exact ⟨hb, (Array.getElem?_eq_some_iff.1 hh).1⟩
theorem OwnL.nil (W : World) (B : Nat) : OwnL W B [] := ⟨fun _ h => (by cases h), List.Pairwise.nil⟩
theorem OwnL.below {W W' : World} {B : Nat} {rs : List (Value × TypeId × List Value)} (h : OwnL W B rs) (hb : Below W.heap.size W W') : OwnL W' B rs :=
  ⟨fun r hr => (h.own r hr).below hb, h.apart⟩
theorem OwnL.perm {W : World} {B : Nat} {rs rs' : List (Value × TypeId × List Value)} (h : OwnL W B rs) (hp : rs.Perm rs') : OwnL W B rs' :=
  ⟨fun r hr => h.own r (hp.mem_iff.2 hr), (hp.pairwise_iff fun hab g hg he => hab g he hg).1 h.apart⟩
theorem OwnL.tail {W : World} {B : Nat} {r : Value × TypeId × List Value} {rs : List (Value × TypeId × List Value)} (h : OwnL W B (r :: rs)) : OwnL W B rs :=
  ⟨fun x hx => h.own x (List.mem_cons_of_mem _ hx), (List.pairwise_cons.1 h.apart).2⟩
theorem OwnL.head {W : World} {B : Nat} {v : Value} {e : TypeId} {xs : List Value} {rs : List (Value × TypeId × List Value)} (h : OwnL W B ((v, e, xs) :: rs)) : OwnV W B e v xs := h.own _ (List.mem_cons_self ..)
theorem OwnL.headS {W : World} {B : Nat} {v : Value} {l : List ByteArray} {rs : List (Value × TypeId × List Value)} (h : OwnL W B (sR v l :: rs)) : OwnS W B v l := h.own _ (List.mem_cons_self ..)
theorem OwnL.swap {W : World} {B : Nat} {a b : Value × TypeId × List Value} {rs : List (Value × TypeId × List Value)} (h : OwnL W B (a :: b :: rs)) : OwnL W B (b :: a :: rs) := h.perm (List.Perm.swap ..)
theorem OwnL.rot3 {W : World} {B : Nat} {a b c : Value × TypeId × List Value} {rs : List (Value × TypeId × List Value)} (h : OwnL W B (a :: b :: c :: rs)) : OwnL W B (c :: a :: b :: rs) := (h.swap.perm ((List.Perm.swap c a rs).cons b)).swap.perm ((List.Perm.swap a b rs).cons c)
theorem OwnL.rot3' {W : World} {B : Nat} {a b c : Value × TypeId × List Value} {rs : List (Value × TypeId × List Value)} (h : OwnL W B (a :: b :: c :: rs)) : OwnL W B (b :: c :: a :: rs) := h.rot3.rot3
/-- A new row: empty, without a block. -/
theorem OwnL.empty {W : World} {B : Nat} {rs : List (Value × TypeId × List Value)} (h : OwnL W B rs) (e : TypeId) : OwnL W B ((.slice none 0 0, e, []) :: rs) :=
  ⟨fun r hr => by
    rcases List.mem_cons.1 hr with rfl | hr
    · exact OwnV.nil W B e
    · exact h.own r hr, List.pairwise_cons.2 ⟨fun b _ g hg => by simp [Value.ownBlock] at hg, h.apart⟩⟩
theorem OwnL.emptyS {W : World} {B : Nat} {rs : List (Value × TypeId × List Value)} (h : OwnL W B rs) : OwnL W B (sR (.slice none 0 0) [] :: rs) := h.empty _
/-- A row that a callee has made. -/
theorem OwnL.made {W W' : World} {B : Nat} {rs : List (Value × TypeId × List Value)} {v : Value} {e : TypeId} {xs : List Value} (h : OwnL W B rs) (hB : B ≤ W.heap.size) (hb : Below W.heap.size W W') (hv : OwnV W' W.heap.size e v xs) : OwnL W' B ((v, e, xs) :: rs) :=
  ⟨fun r hr => by
    rcases List.mem_cons.1 hr with rfl | hr
    · refine ⟨hv.1, ?_⟩
      rcases hv.2 with h1 | ⟨g, cap, cur, h1, h2, h3⟩
      · exact Or.inl h1
      · exact Or.inr ⟨g, cap, cur, h1, Nat.le_trans hB h2, h3⟩
    · exact (h.own r hr).below hb, List.pairwise_cons.2 ⟨fun b hb' g hg he => by
      have h1 := (hv.lt hg).1
      have h2 := ((h.own b hb').lt he).2
      omega, h.apart⟩⟩
/-- Behind an append to the first row. -/
theorem OwnL.app {W W' : World} {B : Nat} {rs : List (Value × TypeId × List Value)} {v v' : Value} {e : TypeId} {xs ys : List Value} (h : OwnL W B ((v, e, xs) :: rs)) (hv : OwnV W' B e v' ys) (hg : W.grownBy W' v.ownBlock) (hat : v'.ownBlock = v.ownBlock ∨ v'.ownBlock = some W.heap.size) : OwnL W' B ((v', e, ys) :: rs) := by
  obtain ⟨h1, h2⟩ := List.pairwise_cons.1 h.apart
  refine ⟨fun r hr => ?_, List.pairwise_cons.2 ⟨fun b hb' g hg' he => ?_, h2⟩⟩
  · rcases List.mem_cons.1 hr with rfl | hr
    · exact hv
    · have h3 := h.own r (List.mem_cons_of_mem _ hr)
      refine World.ownsRow.kept h3 hg ?_
      cases ho : v.ownBlock with
      | none =>
        cases hr2 : r.1.ownBlock with
        | none => exact Or.inl rfl
        | some g => exact Or.inr (by simp)
      | some g => exact Or.inr (h1 r hr g ho)
  · rcases hat with h3 | h3
    · exact h1 b hb' g (h3.symm.trans hg') he
    · rw [h3] at hg'
      cases hg'
      have := ((h.own b (List.mem_cons_of_mem _ hb')).lt he).2
      omega
/-- What is appended: cells that lie in a row, or none. -/
def Src (w : World) (A : Option Addr) (news : List Value) : Prop := (news = [] ∨ ∃ b off, A = some ⟨b, off, none⟩ ∧ ∀ (j : Nat) u, news[j]? = some u → w.cell? ⟨b, off + j, none⟩ = some u) ∧ ∀ u ∈ news, u.oneCell' = true
theorem Src.strs {w : World} {B : Nat} {A : Option Addr} {l : List ByteArray} (h : Strs w B A l) : Src w A (l.map .string) := by
  refine ⟨?_, fun u hu => by obtain ⟨s, _, rfl⟩ := List.mem_map.1 hu; rfl⟩
  rcases Nat.eq_zero_or_pos l.length with h0 | h0
  · exact Or.inl (by rw [List.length_eq_zero_iff.1 h0]; rfl)
  · obtain ⟨b, off, e, _, hc⟩ := h.at_ h0
    refine Or.inr ⟨b, off, e, fun j u hj => ?_⟩
    rw [List.getElem?_map] at hj
    cases hq : l[j]? with
    | none => rw [hq] at hj; cases hj
    | some s => rw [hq] at hj; cases hj; exact hc j s hq
theorem Src.lit (w : World) (cs : Array Value) (T : TypeId) (h1 : ∀ u ∈ cs.toList, u.oneCell' = true) : Src (w.alloc (.cells cs T)) (some ⟨w.heap.size, 0, none⟩) cs.toList :=
  ⟨Or.inr ⟨_, _, rfl, fun j u hj => by rw [cell_of_row _ _ _ _ _ (0, 0) (heap_alloc_new w _), Nat.zero_add, ← Array.getElem?_toList]; exact hj⟩, h1⟩
/-- An append to the first row. -/
theorem wp_al {w : World} {o : Oper} {a : Act} {K : Act → World → Prop} {Q : Exit → Act → World → Prop} (sl x : Operand) (t e : TypeId) (z : Value) (bytes : Nat)
    (ho : o.op = .call { callee := .builtin .append, args := #[sl, x], argTypes := #[t, t] })
    (ht : Tryz.prog.underlying t = some (.slice e)) (hi : (Tryz.prog.info? e).map (fun i => (i.zero, i.size, i.bytes)) = some (some z, 1, bytes)) (hz : z.cells.size = 1) (hby : bytes ≤ 64)
    (B : Nat) (v : Value) (xs : List Value) (rs : List (Value × TypeId × List Value)) (hs : a.eval sl = v) (hL : OwnL w B ((v, e, xs) :: rs)) (A : Option Addr) (n cap : Nat) (news : List Value) (hx : a.eval x = .slice A n cap) (hn : news.length = n) (hsrc : Src w A news)
    (hlen : xs.length + n ≤ 1099511627776) (hB : B ≤ w.heap.size)
    (h : ∀ v' w', OwnL w' B ((v', e, xs ++ news) :: rs) → Below B w w' → K (a.put o.dst v') w') : o.wp Tryz.prog a w K Q := by
  subst hn
  obtain ⟨i, h1, h2, h3, h4⟩ := info_parts hi
  have hown := hL.head
  unfold OwnV at hown
  have hrun0 : ∀ c, (Builtin.append_ #[t, t] o.type #[v, .slice none 0 c]).run Tryz.prog w = .ok v w := fun c => run_append_none (P := Tryz.prog) B t o.type e i 1 ht h1 v xs.length _ hown c
  have key : ∃ v' w', (Builtin.append_ #[t, t] o.type #[v, .slice A news.length cap]).run Tryz.prog w = .ok v' w' ∧ OwnL w' B ((v', e, xs ++ news) :: rs) ∧ Below B w w' := by
    cases A with
    | none =>
      have h0 : news = [] := by
        rcases hsrc.1 with h0 | ⟨_, _, h0, _⟩
        · exact h0
        · cases h0
      subst h0
      exact ⟨v, w, hrun0 cap, by rw [List.append_nil]; exact hL, Below.refl _ _⟩
    | some ad =>
      obtain ⟨v', w', hr, h5, h6, _, h7⟩ := run_append_own_at (P := Tryz.prog) w B t o.type e i z 1 bytes ht h1 h2 h3 h4 hz (by omega) v xs.length xs hown ad news.length cap news (by rw [Nat.mul_one]) (fun j u hj => by
        rcases hsrc.1 with h0 | ⟨b, off, h0, hc⟩
        · rw [h0] at hj; cases hj
        · cases h0
          rw [addr_off]
          exact hc j u hj) hsrc.2 (by unfold maxLen; omega) (by
            have : (xs.length + news.length) * bytes ≤ 1099511627776 * 64 := Nat.mul_le_mul hlen hby
            omega) hB
      refine ⟨v', w', hr, hL.app ?_ h6 h7, below_own hown h6 hB⟩
      unfold OwnV
      rw [List.length_append]
      exact h5
  obtain ⟨v', w', hrun, h5, h6⟩ := key
  unfold Oper.wp execOp
  simp only [ho, resolve, invoke, builtin, Sem.run_bind, Sem.run_pure, Result.andThen_ok, List.map_toArray, List.map_cons, List.map_nil, hs, hx, hrun]
  exact h v' w' h5 h6
/-- An append of a slice of strings, at a step of a list of operations. -/
theorem step_la {w : World} {ops : Array Oper} {rest : List Oper} {o : Oper} {a : Act} {Q : Exit → Act → World → Prop} (hgd : Region.wanted o (yielded ops a.tmps) = true) (sl x : Operand)
    (ho : o.op = .call { callee := .builtin .append, args := #[sl, x], argTypes := #[22, 22] })
    (B B' : Nat) (v : Value) (l l' : List ByteArray) (rs : List (Value × TypeId × List Value)) (hs : a.eval sl = v) (hL : OwnL w B (sR v l :: rs)) (A : Option Addr) (n cap : Nat) (hx : a.eval x = .slice A n cap) (hn : l'.length = n) (hS : Strs w B' A l')
    (hlen : l.length + n ≤ 1099511627776) (hB : B ≤ w.heap.size)
    (h : ∀ v' w', OwnL w' B (sR v' (l ++ l') :: rs) → Below B w w' → wpList Tryz.prog ops Q rest (a.put o.dst v') w') : wpList Tryz.prog ops Q (o :: rest) a w :=
  wpList_wanted hgd fun K hK => wp_al sl x _ _ _ 16 ho Tryz.underlying22 strInfo rfl (by omega) B v _ rs hs hL A n cap (l'.map .string) hx (by rw [List.length_map]; exact hn) (Src.strs hS) (by rw [List.length_map]; exact hlen) hB fun v' w' h1 h2 => hK _ _ (h v' w' (by unfold sR; rw [List.map_append]; exact h1) h2)
/-- An append of strings that a literal lays just before. -/
theorem step_ll {w0 : World} {ops : Array Oper} {rest : List Oper} {o : Oper} {a : Act} {Q : Exit → Act → World → Prop} (hgd : Region.wanted o (yielded ops a.tmps) = true) (sl x : Operand)
    (ho : o.op = .call { callee := .builtin .append, args := #[sl, x], argTypes := #[22, 22] })
    (B : Nat) (v : Value) (l l' : List ByteArray) (rs : List (Value × TypeId × List Value)) (cs : Array Value) (hcs : cs = (l'.map Value.string).toArray) (hs : a.eval sl = v) (hL : OwnL w0 B (sR v l :: rs)) (n cap : Nat) (hx : a.eval x = .slice (some ⟨w0.heap.size, 0, none⟩) n cap) (hn : l'.length = n)
    (hlen : l.length + n ≤ 1099511627776) (hB : B ≤ w0.heap.size)
    (h : ∀ v' w', OwnL w' B (sR v' (l ++ l') :: rs) → Below B w0 w' → wpList Tryz.prog ops Q rest (a.put o.dst v') w') : wpList Tryz.prog ops Q (o :: rest) a (w0.alloc (.cells cs 9)) := by
  subst hcs
  exact step_la hgd sl x ho B _ v l l' rs hs (hL.below ((Below.refl _ _).alloc (Nat.le_refl _) _)) _ n cap hx hn (Strs.new w0 l' _ _ rfl) hlen (by simp; omega) fun v' w' h1 h2 => h v' w' h1 (((Below.refl _ _).alloc hB _).trans h2)
end Go.Proofs.YtadmidkpchonhaaGreatDoor
/- Made of the reference: the plain part. -/
namespace Go.Proofs.YtadmidkpchonhaaGreatDoor
open Go Go.RowKit Go.Sort
theorem decimal_of (n : Nat) (D : ByteArray) (hD : Dg.decS n = D) (hn : n ≤ 9223372036854775807) (w : World) :
    Calls Tryz.prog 53 #[.int .i64 (n : Int)] w fun e w' => e = .returned (.string D) ∧ w = w' := by
  have e : decB n = D := by rw [← hD, Dg.decS, decB, dec_eq n hn]
  subst e
  exact decimal_any n hn w
def madeTo (s : ByteArray) (n i : Nat) : List ByteArray := (List.range i).flatMap (Dg.madeKey s n)
def partTo (s : ByteArray) (n i k : Nat) : List ByteArray := (List.range k).flatMap fun k => Dg.startT s i k :: Dg.chained (Dg.startB s i k) n
def lvTo (s : ByteArray) (i : Nat) : List ByteArray := (List.range i).map fun j => Dg.leafB (Dg.keyB s j)
theorem partTo_succ (s : ByteArray) (n i k : Nat) : partTo s n i (k + 1) = partTo s n i k ++ [Dg.startT s i k] ++ Dg.chained (Dg.startB s i k) n := by
  unfold partTo
  rw [List.range_succ, List.flatMap_append, List.append_assoc]
  simp
theorem partTo_len (s : ByteArray) (n i k : Nat) : (partTo s n i k).length = k * (n + 2) := by
  induction k with
  | zero => simp [partTo]
  | succ k ih => rw [partTo_succ, List.length_append, List.length_append, ih, chained_len, Nat.succ_mul]; simp; omega
theorem madeKey_eq (s : ByteArray) (n i : Nat) : Dg.madeKey s n i = partTo s n i 18 ++ [Dg.jB (endsTo s i 18), Dg.jB [Dg.sLeaf, Dg.keyB s i]] := rfl
theorem madeTo_succ (s : ByteArray) (n i : Nat) : madeTo s n (i + 1) = madeTo s n i ++ partTo s n i 18 ++ [Dg.jB (endsTo s i 18), Dg.jB [Dg.sLeaf, Dg.keyB s i]] := by
  unfold madeTo
  rw [List.range_succ, List.flatMap_append, List.append_assoc, ← madeKey_eq]
  simp
theorem madeTo_len (s : ByteArray) (n i : Nat) : (madeTo s n i).length = i * (18 * (n + 2) + 2) := by
  induction i with
  | zero => simp [madeTo]
  | succ i ih =>
    rw [madeTo_succ, List.length_append, List.length_append, ih, partTo_len]
    generalize 18 * (n + 2) = q
    simp only [List.length_cons, List.length_nil, Nat.succ_mul]
    omega
theorem lvTo_succ (s : ByteArray) (i : Nat) : lvTo s (i + 1) = lvTo s i ++ [Dg.leafB (Dg.keyB s i)] := by unfold lvTo; rw [List.range_succ, List.map_append]; rfl
theorem lvTo_len (s : ByteArray) (i : Nat) : (lvTo s i).length = i := by rw [lvTo, List.length_map, List.length_range]
theorem lvTo_all (s : ByteArray) (h : Nat) : lvTo s (2 ^ h) = Dg.leaves s h := by unfold lvTo Dg.leaves Dg.keysB; rw [List.map_map]; rfl
theorem made_eq (s : ByteArray) (h n : Nat) : Dg.made s h n = madeTo s n (2 ^ h) ++ Dg.lvF (2 ^ h) (lvTo s (2 ^ h)) := by rw [lvTo_all]; rfl
theorem lvTo_16 (s : ByteArray) (i : Nat) : ∀ x ∈ lvTo s i, x.size = 16 := fun x hx => by
  unfold lvTo at hx
  obtain ⟨j, _, rfl⟩ := List.mem_map.1 hx
  exact listB_size _
theorem pairT_take (L : List ByteArray) : ∀ j, ¬ 2 * j + 1 < L.length → Dg.pairT (L.take (2 * j)) = Dg.pairT L ∧ Dg.pairD (L.take (2 * j)) = Dg.pairD L := by
  intro j
  induction j generalizing L with
  | zero =>
    intro h
    match L with
    | [] => exact ⟨rfl, rfl⟩
    | [a] => exact ⟨rfl, rfl⟩
    | a :: b :: r => simp at h
  | succ j ih =>
    intro h
    match L with
    | [] => exact ⟨rfl, rfl⟩
    | [a] => exact ⟨rfl, rfl⟩
    | a :: b :: r =>
      have h2 := ih r (by simp at h; omega)
      rw [show 2 * (j + 1) = (2 * j) + 1 + 1 by omega]
      simp only [List.take_succ_cons, Dg.pairT, Dg.pairD]
      exact ⟨by rw [h2.1], by rw [h2.2]⟩
theorem pairT_more (x y : ByteArray) : ∀ (j : Nat) (L : List ByteArray), L[2 * j]? = some x → L[2 * j + 1]? = some y → Dg.pairT (L.take (2 * (j + 1))) = Dg.pairT (L.take (2 * j)) ++ [Dg.jB [Dg.sNode, x, y]] ∧ Dg.pairD (L.take (2 * (j + 1))) = Dg.pairD (L.take (2 * j)) ++ [Dg.nodeB x y] := by
  intro j
  induction j with
  | zero =>
    intro L hx hy
    match L with
    | [] => simp at hx
    | [a] => simp at hy
    | a :: b :: r =>
      simp at hx hy
      subst hx hy
      exact ⟨rfl, rfl⟩
  | succ j ih =>
    intro L hx hy
    match L with
    | [] => simp at hx
    | [a] => simp at hy
    | a :: b :: r =>
      rw [show 2 * (j + 1) = 2 * j + 1 + 1 by omega] at hx hy
      simp only [List.getElem?_cons_succ] at hx hy
      have h2 := ih r hx hy
      rw [show 2 * (j + 1 + 1) = (2 * (j + 1)) + 1 + 1 by omega, show 2 * (j + 1) = 2 * j + 1 + 1 by omega]
      simp only [List.take_succ_cons, Dg.pairT, Dg.pairD, List.cons_append]
      exact ⟨by rw [← h2.1]; rfl, by rw [← h2.2]; rfl⟩
theorem pairs_len (n : Nat) : ∀ (L : List ByteArray), L.length ≤ n → (Dg.pairT L).length = L.length / 2 ∧ (Dg.pairD L).length = L.length / 2 := by
  induction n using Nat.strongRecOn with
  | _ n ih =>
  intro L hL
  match L with
  | [] => exact ⟨rfl, rfl⟩
  | [a] => exact ⟨by simp [Dg.pairT], by simp [Dg.pairD]⟩
  | a :: b :: r =>
    simp only [List.length_cons] at hL
    have h2 := ih (n - 2) (by omega) r (by omega)
    simp only [Dg.pairT, Dg.pairD, List.length_cons, h2.1, h2.2]
    omega
theorem pairD_16 (n : Nat) : ∀ (L : List ByteArray), L.length ≤ n → ∀ x ∈ Dg.pairD L, x.size = 16 := by
  induction n using Nat.strongRecOn with
  | _ n ih =>
  intro L hL
  match L with
  | [] => intro x hx; cases hx
  | [a] => intro x hx; cases hx
  | a :: b :: r =>
    simp only [List.length_cons] at hL
    intro x hx
    rcases List.mem_cons.1 hx with rfl | hx
    · exact listB_size _
    · exact ih (n - 2) (by omega) r (by omega) x hx
theorem lvF_step (f : Nat) (L : List ByteArray) (h : 1 < L.length) : Dg.lvF (f + 1) L = Dg.pairT L ++ Dg.lvF f (Dg.pairD L) := by
  rw [Dg.lvF, if_neg (by omega)]
theorem lvF_stop (f : Nat) (L : List ByteArray) (h : ¬ 1 < L.length) : Dg.lvF f L = [] := by
  cases f with
  | zero => rfl
  | succ f => rw [Dg.lvF, if_pos (by omega)]
end Go.Proofs.YtadmidkpchonhaaGreatDoor
/- Made of the reference, walked. -/
namespace Go.Proofs.YtadmidkpchonhaaGreatDoor
open Go Go.RowKit Go.Sort
theorem endsTo_18 (s : ByteArray) (i : Nat) : endsTo s i 18 = Dg.endsOf s i := rfl
theorem Dg.keyB_eq (s : ByteArray) (i : Nat) : Dg.sumB (Dg.jB (endsTo s i 18)) = Dg.keyB s i := by rw [endsTo_18]; exact Dg.sumB_jB _
theorem Dg.leaf_eq (x : ByteArray) : Dg.sumB (Dg.jB [Dg.sLeaf, x]) = Dg.leafB x := rfl
theorem OwnL.strs1 {W : World} {B : Nat} {v : Value} {l : List ByteArray} {rs : List (Value × TypeId × List Value)} (h : OwnL W B (sR v l :: rs)) : ∃ A c, v = .slice A l.length c ∧ l.length ≤ c ∧ Strs W W.heap.size A l := h.headS.strs
theorem sR_snoc (v : Value) (l : List ByteArray) (x : ByteArray) : (v, 9, l.map Value.string ++ [Value.string x]) = sR v (l ++ [x]) := by unfold sR; rw [List.map_append]; rfl
theorem chained_get (S : ByteArray) (n j : Nat) (h : j ≤ n) : (Dg.chained S n)[j]? = some (Dg.chainB S j) := by
  unfold Dg.chained; rw [List.getElem?_map, List.getElem?_range (by omega)]; rfl
end Go.Proofs.YtadmidkpchonhaaGreatDoor
/- The last step of each law's row: the result is true, and each argument reads as it did. No conditions. -/
namespace Go.Proofs.YtadmidkpchonhaaGreatDoor
open Go Go.RowKit Go.ChangeShapes Go.WideShapes Go.ChangeAt
section
variable {H : Type} {enc : TypeId × Value → H} {P : Program}
theorem trodAll_later (hl : laidOutB P = true) {W W' : World} (hb : Below W.heap.size W W') : ∀ {ts : List TypeId} {vs : List Value} {ds : List (DataW H)} {ps : List MemPlace},
    (∀ t ∈ ts, P.readableRec t = true ∧ t < P.types.size) → (∀ x ∈ ps, x.block < W.heap.size) → DataW.TrodAll enc P W 0 (fun _ => true) true ts vs ds ps → DataW.TrodAll enc P W' 0 (fun b => decide (b < W.heap.size)) true ts vs ds ps
  | [], vs, ds, ps, _, _, h => by
    obtain ⟨rfl, rfl, rfl⟩ := trodAll_nil h
    exact trodAll_mk0
  | t :: ts, vs, ds, ps, hts, hlt, h => by
    obtain ⟨v, vs', d, ds', p, q, rfl, rfl, rfl, hv, hr⟩ := trodAll_cons h
    obtain ⟨h1, h2⟩ := hts t (List.mem_cons_self ..)
    exact trodAll_cons_mk (Below.trod hl h1 h2 hv hb fun x hx => hlt x (List.mem_append_left _ hx))
      (trodAll_later hl hb (fun t' ht' => hts t' (List.mem_cons_of_mem _ ht')) (fun x hx => hlt x (List.mem_append_right _ hx)) hr)
theorem law_post (hl : laidOutB P = true) {f : Func} {s : ChangeSpec} (hv : s.vars = []) {tb : TypeId} (hrt : f.resultTypes = #[tb]) (htb : P.underlying tb = some .bool)
    (hts : (f.params.toList.all fun t => P.readableRec t && decide (t < P.types.size)) = true) {W W' : World} {args : Array Value} {ds gs : List (DataW H)} {before : List MemPlace}
    (hW : DataW.Whole enc P f.params.toList s.vars false W args.toList ds gs before) (hfn : s.fn H (ds ++ gs) = { results := [.lit (.bool true)], args := ds }) (hb : Below W.heap.size W W') :
    s.post enc P f false true false false W args (.bool true) W' := by
  have hlt : ∀ p ∈ before, p.block < W.heap.size := fun p hp => hW.lt p hp
  have hW' := hW
  obtain ⟨p, q, hA, hV, rfl, _, _⟩ := hW
  refine ⟨ds, gs, p ++ q, [], p, [], hW', ?_, ?_, ?_, hb.frame _, fun h => by cases h⟩
  · rw [hfn, hrt]
    exact trodAll_mk1 (shut_bool htb true)
  · rw [hfn]
    exact trodAll_later hl hb (fun t ht => by have := List.all_eq_true.1 hts t ht; simpa using this) (fun x hx => hlt x (List.mem_append_left _ hx)) hA
  · rw [hfn, hv]
    exact rfl
end
end Go.Proofs.YtadmidkpchonhaaGreatDoor
/- The arguments of the laws, opened: strings, small numbers, slices of strings. No conditions. -/
namespace Go.Proofs.YtadmidkpchonhaaGreatDoor
open Go Go.RowKit Go.ChangeShapes Go.WideShapes Go.ChangeAt Go.WideMaps Go.WideElems
open Go.ChangeMaps (open_string)
theorem laid_mem {P : Program} {w : World} {n : String} {d : DataW Unit} : ∀ {l : List (String × DataW Unit)} {ps : List MemPlace}, (n, d) ∈ l → DataW.LaidVars P w l ps →
    ∃ g t cs fuel p, P.globalNamed n = some g ∧ (P.globals[g]?).map (·.type) = some t ∧ w.var? P n = some cs ∧ DataW.trod (fun _ => ()) P w 0 (fun _ => true) false fuel t cs.toList = some (d, p)
  | [], _, hm, _ => by cases hm
  | x :: r, ps, hm, h => by
    obtain ⟨g, t, cs, fuel, p, q, h1, h2, h3, h4, h5, _⟩ := h
    rcases List.mem_cons.1 hm with hx | hx
    · subst hx
      exact ⟨g, t, cs, fuel, p, h1, h2, h3, h4⟩
    · exact laid_mem hx h5
theorem env_of_laid {W : World} {l : List (String × DataW Unit)} (hp : (l.all fun x => x.2.handleName?.isNone) = true) (hm : ("internal/strconv.uint64pow10", Lib.tabData .u64 Lib.pow10Tab) ∈ l) (h : laidMetH Tryz.prog l W) : Env W := by
  rw [MakeChecks.laidMetH_plain _ _ _ hp] at h
  obtain ⟨ps, hl, _⟩ := h
  obtain ⟨g, t, cs, fuel, p, hg, ht, hvar, hd⟩ := laid_mem hm hl
  obtain rfl := Option.some.inj (gPow.symm.trans hg)
  obtain rfl := Option.some.inj ((show (Tryz.prog.globals[1]?).map (·.type) = some 115 by kernel_rfl).symm.trans ht)
  unfold Env Lib.TabIs
  rw [hvar, ← Lib.cells_of_tab Tryz.underlying115 Tryz.underlying82 (by kernel_rfl) (by kernel_rfl) hd]
section
variable {H : Type} {enc : TypeId × Value → H}
theorem addr_of_cell {w : World} {a : Addr} {v : Value} (h : w.cell? a = some v) : a = ⟨a.block, a.off, none⟩ ∧ a.block < w.heap.size := by
  refine ⟨?_, block_lt_of_cell h⟩
  obtain ⟨b, off, sp⟩ := a
  cases sp with
  | none => rfl
  | some k =>
    exfalso
    unfold World.cell? at h
    simp at h
    split at h <;> simp at h
theorem add_plain (b off j : Nat) : (⟨b, off, none⟩ : Addr).add j = ⟨b, off + j, none⟩ := by
  unfold Addr.add
  by_cases h : j = 0
  · rw [if_pos h, h, Nat.add_zero]
  · rw [if_neg h]
set_option maxRecDepth 100000 in
theorem open_strs {W : World} {v : Value} {d : DataW H} {p : List MemPlace} {base : Nat} (hv : Value.okWide Tryz.prog W .any base 22 v) (h : DataW.Trod enc Tryz.prog W 0 (fun _ => true) true 22 v d p) :
    ∃ (A : Option Addr) (c : Nat) (l : List ByteArray), v = .slice A l.length c ∧ l.length ≤ 9223372036854775807 ∧ (∀ s ∈ l, s.size ≤ 9223372036854775807) ∧ Strs W W.heap.size A l := by
  obtain ⟨a0, len, cap, rfl⟩ := okWide_slice Tryz.underlying22 hv
  obtain ⟨fuel, hf⟩ := h
  rcases open_strings Tryz.underlying22 Tryz.underlying9 (by kernel_rfl) hf with ⟨hcs, _⟩ | ⟨a, len', cap', ss, hcs, _, hl, hm, hz, _, hcell, hws⟩
  · simp [Value.cells] at hcs
    obtain ⟨rfl, rfl, rfl⟩ := hcs
    exact ⟨none, 0, [], rfl, by simp, by simp, Strs.nil _ _ _⟩
  · simp [Value.cells] at hcs
    obtain ⟨rfl, rfl, rfl⟩ := hcs
    simp only [if_true] at hz
    unfold maxLen at hm
    have htl : (ss.take len).length = len := by rw [List.length_take, hz]; omega
    refine ⟨some a, cap, ss.take len, by rw [htl], by rw [htl]; omega, fun s hs => hws s (List.mem_of_mem_take hs), ⟨fun h0 => ?_⟩⟩
    rw [htl] at h0
    have h00 : a.add 0 = a := by unfold Addr.add; rw [if_pos rfl]
    obtain ⟨e, hb⟩ := addr_of_cell (h00 ▸ hcell 0 (by omega))
    refine ⟨a.block, a.off, by rw [← e], hb, fun j s hj => ?_⟩
    have hjl : j < len := by
      have := (List.getElem?_eq_some_iff.1 hj).1
      rw [htl] at this; exact this
    have h1 := hcell j (by omega)
    rw [List.getElem?_take, if_pos hjl] at hj
    rw [List.getD_eq_getElem?_getD, hj] at h1
    have e2 : a.add j = ⟨a.block, a.off + j, none⟩ := by
      conv => lhs; rw [e]
      exact add_plain _ _ _
    rw [← e2]
    exact h1
end
end Go.Proofs.YtadmidkpchonhaaGreatDoor

