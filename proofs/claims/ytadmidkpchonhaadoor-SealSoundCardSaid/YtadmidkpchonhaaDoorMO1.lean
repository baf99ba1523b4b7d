/- Walks and laws of this seat, several texts in one: SL3, S13, SL5, SL8, Open3. No conditions but those that each theorem states. -/
import Derived.Test.YtadmidkpchonhaaDoorMA3
import Derived.Lib.SmallJoins
/- SealSecrets. -/
namespace Go.Proofs.YtadmidkpchonhaaDoor
open Go Go.RowKit Go.Sort
theorem chained_isB {S : ByteArray} (h : Dg.isB S = true) (n : Nat) : ∀ t ∈ Dg.chained S n, t.size ≤ 4194304 := fun t ht => by
  unfold Dg.chained at ht
  obtain ⟨j, _, rfl⟩ := List.mem_map.1 ht
  have := Dg.chainB_le S j
  have := Dg.isB_len h
  omega
theorem pairT_size (n : Nat) : ∀ (L : List ByteArray), L.length ≤ n → (∀ x ∈ L, x.size ≤ 1048576) → ∀ t ∈ Dg.pairT L, t.size ≤ 4194304 := by
  induction n using Nat.strongRecOn with
  | _ n ih =>
  intro L hL hz
  match L with
  | [] => intro t ht; cases ht
  | [a] => intro t ht; cases ht
  | a :: b :: r =>
    simp only [List.length_cons] at hL
    intro t ht
    rcases List.mem_cons.1 ht with rfl | ht
    · exact jB_size _ (by simp) (mem3 (by decide) (hz a (by simp)) (hz b (by simp)))
    · exact ih (n - 2) (by omega) r (by omega) (fun x hx => hz x (List.mem_cons_of_mem _ (List.mem_cons_of_mem _ hx))) t ht
theorem lvF_size (f : Nat) : ∀ (L : List ByteArray), (∀ x ∈ L, x.size = 16) → ∀ t ∈ Dg.lvF f L, t.size ≤ 4194304 := by
  induction f with
  | zero => intro L _ t ht; cases ht
  | succ f ih =>
    intro L hL t ht
    rw [Dg.lvF] at ht
    split at ht
    · cases ht
    · rcases List.mem_append.1 ht with ht | ht
      · exact pairT_size L.length L (Nat.le_refl _) (fun x hx => by rw [hL x hx]; decide) t ht
      · exact ih _ (pairD_16 L.length L (Nat.le_refl _)) t ht
theorem ends_jB_size (s : ByteArray) (i : Nat) : (Dg.jB (Dg.endsOf s i)).size ≤ 4611686018427387904 := by
  rw [Dg.jB, Dg.size_B]
  have := joined_16 (Dg.endsOf s i) (by rw [Dg.endsOf_len]; decide) (fun x hx => by rw [Dg.endsOf_size s i x hx]; decide)
  omega
theorem made_size (s : ByteArray) (hs : s.size ≤ 1048576) (h n : Nat) : ∀ t ∈ Dg.made s h n, t.size ≤ 4611686018427387904 := fun t ht => by
  unfold Dg.made at ht
  rcases List.mem_append.1 ht with ht | ht
  · obtain ⟨i, _, ht⟩ := List.mem_flatMap.1 ht
    unfold Dg.madeKey at ht
    rcases List.mem_append.1 ht with ht | ht
    · obtain ⟨k, _, ht⟩ := List.mem_flatMap.1 ht
      rcases List.mem_cons.1 ht with rfl | ht
      · have := jB_size [s, Dg.decS i, Dg.decS k] (by simp) (mem3 hs (by have := Dg.decS_size i; omega) (by have := Dg.decS_size k; omega))
        exact Nat.le_trans this (by decide)
      · exact Nat.le_trans (chained_isB (by rw [← Dg.ch_zero]; exact Dg.isB_ch _ _ _ _) n t ht) (by decide)
    · rcases List.mem_cons.1 ht with rfl | ht
      · exact ends_jB_size s i
      · rw [List.mem_singleton.1 ht]
        exact Nat.le_trans (jB_size [Dg.sLeaf, Dg.keyB s i] (by simp) (mem2 (by decide) (by rw [Dg.keyB_size]; decide))) (by decide)
  · exact Nat.le_trans (lvF_size _ _ (fun x hx => by
      unfold Dg.leaves at hx
      obtain ⟨y, _, rfl⟩ := List.mem_map.1 hx
      exact listB_size _) t ht) (by decide)
theorem made_len (s : ByteArray) (h n : Nat) (hh : h ≤ 2) (hn : n ≤ 30) : 1 ≤ (Dg.made s h n).length ∧ (Dg.made s h n).length ≤ 100000 := by
  have hp : 2 ^ h ≤ 4 := Nat.pow_le_pow_right (n := 2) (by omega) hh
  have hp1 := Nat.one_le_two_pow (n := h)
  rw [made_eq, List.length_append, madeTo_len]
  have key : ∀ f (L : List ByteArray), L.length ≤ 4 → (Dg.lvF f L).length ≤ 2 * f := by
    intro f
    induction f with
    | zero => intro L _; exact Nat.le_refl _
    | succ f ih =>
      intro L hL
      rw [Dg.lvF]
      split
      · simp
      · have h1 := pairs_len L.length L (Nat.le_refl _)
        have h2 := ih (Dg.pairD L) (by omega)
        rw [List.length_append]
        omega
  have h1 := key (2 ^ h) (lvTo s (2 ^ h)) (by rw [lvTo_len]; exact hp)
  generalize 2 ^ h = P at *
  have h2 : P * (18 * (n + 2) + 2) ≤ 4 * (18 * (30 + 2) + 2) := Nat.mul_le_mul hp (by omega)
  have h3 : 1 * (18 * (0 + 2) + 2) ≤ P * (18 * (n + 2) + 2) := Nat.mul_le_mul hp1 (by omega)
  omega
end Go.Proofs.YtadmidkpchonhaaDoor
/- Checked of the reference: the plain part. -/
namespace Go.Proofs.YtadmidkpchonhaaDoor
open Go Go.RowKit Go.Sort
theorem sigAt (sig : List ByteArray) (k : Nat) : sig.getD k ⟨#[]⟩ = (sig[k]?).getD ⟨#[]⟩ := List.getD_eq_getElem?_getD ..
def chTo (m : ByteArray) (sig : List ByteArray) (k : Nat) : List ByteArray := (List.range k).flatMap fun k => Dg.chained (sig.getD k ⟨#[]⟩) (15 - Dg.dig m k)
def enTo (m : ByteArray) (sig : List ByteArray) (k : Nat) : List ByteArray := (List.range k).map fun k => Dg.chainB (sig.getD k ⟨#[]⟩) (15 - Dg.dig m k)
theorem chTo_succ (m : ByteArray) (sig : List ByteArray) (k : Nat) : chTo m sig (k + 1) = chTo m sig k ++ Dg.chained (sig.getD k ⟨#[]⟩) (15 - Dg.dig m k) := by unfold chTo; rw [List.range_succ, List.flatMap_append]; simp
theorem enTo_succ (m : ByteArray) (sig : List ByteArray) (k : Nat) : enTo m sig (k + 1) = enTo m sig k ++ [Dg.chainB (sig.getD k ⟨#[]⟩) (15 - Dg.dig m k)] := by unfold enTo; rw [List.range_succ, List.map_append]; rfl
theorem enTo_18 (m : ByteArray) (sig : List ByteArray) : enTo m sig 18 = Dg.endsB m sig := rfl
theorem chTo_len (m : ByteArray) (sig : List ByteArray) (k : Nat) : (chTo m sig k).length ≤ 16 * k := by
  induction k with
  | zero => simp [chTo]
  | succ k ih => rw [chTo_succ, List.length_append, chained_len]; omega
theorem enTo_len (m : ByteArray) (sig : List ByteArray) (k : Nat) : (enTo m sig k).length = k := by rw [enTo, List.length_map, List.length_range]
theorem foldT_len (q : List ByteArray) : ∀ (i : Nat) (d : ByteArray), (Dg.foldT i d q).length = q.length := by
  induction q with
  | nil => intro _ _; rfl
  | cons a q ih => intro i d; rw [Dg.foldT, List.length_cons, ih, List.length_cons]
theorem isB_ends (m : ByteArray) (sig : List ByteArray) (h : ∀ s ∈ sig, s.size = 16) : ∀ s ∈ Dg.endsB m sig, s.size ≤ 32 := fun x hx => by
  unfold Dg.endsB at hx
  obtain ⟨k, _, rfl⟩ := List.mem_map.1 hx
  have := Dg.chainB_le (sig.getD k ⟨#[]⟩) (15 - Dg.dig m k)
  have h2 : (sig.getD k ⟨#[]⟩).size ≤ 16 := by
    rw [List.getD_eq_getElem?_getD]
    cases hg : sig[k]? with
    | none => decide
    | some s => exact Nat.le_of_eq (h s (List.mem_of_getElem? hg))
  omega
theorem int_cell {W : World} {B g n c : Nat} {T : TypeId} {xs : List Value} {k : Nat} {u : Value} (h : OwnV W B T (.slice (some ⟨g, 0, none⟩) n c) xs) (hu : xs[k]? = some u) : W.cell? ⟨g, k, none⟩ = some u := by
  have hk := (List.getElem?_eq_some_iff.1 hu).1
  rcases h.2 with ⟨h0, _⟩ | ⟨g', cap, cur, h0, _, hgb, _, _, _, htk⟩
  · injection h0 with h1 _ _; cases h1
  · injection h0 with h1 _ _
    injection h1 with h1
    injection h1 with h1 _ _
    subst h1
    rw [cell_of_row _ _ _ _ _ (0, 0) hgb, ← Array.getElem?_toList]
    have h5 : (cur.toList.take (xs.length * 1))[k]? = xs[k]? := by rw [htk]
    rw [List.getElem?_take, if_pos (by omega)] at h5
    rw [h5, hu]
set_option maxRecDepth 100000 in
set_option maxHeartbeats 4000000 in
theorem checked_any (m : ByteArray) (i : Nat) (A A' : Option Addr) (c c' n' : Nat) (sig path : List ByteArray) (w : World) (hi : i ≤ 4611686018427387904) (hm : m.size ≤ 4611686018427387904) (hl : sig.length = 18) (hz : ∀ s ∈ sig, s.size = 16) (hS : Strs w w.heap.size A sig)
    (hl2 : path.length = n') (hn : n' ≤ 30) (hz2 : ∀ s ∈ path, s.size = 16) (hS2 : Strs w w.heap.size A' path) :
    Calls Tryd.prog 20 #[.string m, .agg #[.int .i64 i, .slice A 18 c, .slice A' n' c']] w fun e w' => (∃ v, e = .returned v ∧ OwnS w' w.heap.size v (Dg.checked m i sig path)) ∧ Below w.heap.size w w' := by
  have hl' := hide hl; have hz' := hide hz; have hl2' := hide hl2; have hz2' := hide hz2
  clear hl hz hl2 hz2
  go_enter Tryd.func20, Tryd.ntmps20
  go_wp2_with fail
  have hW := Below.news (Below.refl w.heap.size w) (.cells #[.int .i64 i, .slice A 18 c, .slice A' n' c'] 29)
  have r0 := heap_alloc_new w (.cells #[.int .i64 i, .slice A 18 c, .slice A' n' c'] 29)
  have hsz0 : w.heap.size < (w.alloc (.cells #[.int .i64 i, .slice A 18 c, .slice A' n' c'] 29)).heap.size := by simp
  replace hS := keepS hS hW
  replace hS2 := keepS hS2 hW
  generalize w.alloc (.cells #[.int .i64 i, .slice A 18 c, .slice A' n' c'] 29) = W0 at *
  refine (rdigs_any m hm W0).mono ?_
  rintro e w1 ⟨⟨vd, rfl, hD⟩, hb1⟩
  have hdl := digI_len m 18
  obtain ⟨gd, cd, rfl⟩ : ∃ g c, vd = .slice (some ⟨g, 0, none⟩) 18 c := by
    rcases hD.2 with ⟨_, h0⟩ | ⟨g, cap, cur, h0, _⟩
    · rw [hdl] at h0; cases h0
    · exact ⟨g, cap, by rw [h0, hdl]⟩
  have hL1 : OwnL w1 W0.heap.size [sR (.slice none 0 0) [], sR (.slice none 0 0) [], (.slice (some ⟨gd, 0, none⟩) 18 cd, 3, digI m 18)] := ((OwnL.mk (rs := [(.slice (some ⟨gd, 0, none⟩) 18 cd, 3, digI m 18)]) (fun r hr => by rw [List.mem_singleton.1 hr]; exact hD) (List.pairwise_singleton _ _)).emptyS).emptyS
  clear hD
  go_wp2
  go_loopw [6, 7, 8] (fun ov ev kv wr => ∃ k : Nat, k ≤ 18 ∧ kv = .int .i64 k ∧ Below W0.heap.size W0 wr ∧ OwnL wr W0.heap.size [sR ov (chTo m sig k), sR ev (enTo m sig k), (.slice (some ⟨gd, 0, none⟩) 18 cd, 3, digI m 18)]) (fun _ _ kv _ => 18 - (intOf kv).toNat)
  case atStart => exact ⟨0, by omega, rfl, hb1, hL1⟩
  case round =>
    obtain ⟨k, hk, rfl, hbr, hLr⟩ := hrel
    have rr := row_next r0 hbr
    obtain ⟨f1, f2, f3⟩ := cells3 rr
    have hrl : w.heap.size < wr.heap.size := (Array.getElem?_eq_some_iff.1 rr).1
    by_cases hlt : k < 18
    · have hkl : k < sig.length := by rw [hl'.out]; exact hlt
      obtain ⟨b, off, rfl, hbl, hcell⟩ := (keepS hS hbr).get hkl
      have hx16 := hz'.out sig[k] (List.getElem_mem hkl)
      have hgx := hide (getD_eq sig k hkl)
      have hd15 := Dg.dig_le m k
      have hdi := hide (digI_get m 18 k hlt)
      have hdc := int_cell hLr.rot3.head hdi.out
      have hgdl : gd < wr.heap.size := block_lt_of_cell hdc
      have hcs := hide (chTo_succ m sig k)
      have hes := hide (enTo_succ m sig k)
      have hcl := chTo_len m sig k
      have hel := enTo_len m sig k
      rw [hgx.out] at hcs hes
      generalize Dg.dig m k = d at *
      generalize sig[k] = x at *
      have hxl := chained_len x (15 - d)
      have hxg := hide (chained_get x (15 - d) (15 - d) (Nat.le_refl _))
      generalize Dg.chainB x (15 - d) = C0 at *
      generalize chTo m sig k = Q at *
      generalize enTo m sig k = E at *
      obtain ⟨D, hD⟩ : ∃ D : Nat, 15 - d = D := ⟨_, rfl⟩
      have hD15 : D ≤ 15 := by omega
      have e15 : (15 : Int) - (d : Int) = (D : Int) := by omega
      rw [hD] at hxl hxg hcs
      clear hD
      have hD1 : (D : Int) < ((D + 1 : Nat) : Int) := by omega
      have hk0 : (0 : Int) ≤ (k : Int) := by omega
      have hk1 : (k : Int) < 18 := by omega
      go_wp2
      have hmx : Tryd.prog.follows .mixedOrders = true := by kernel_rfl
      have hHeld : (fun W' : World => W'.cell? ⟨w.heap.size, 1, none⟩ = some (.slice (some ⟨b, off, none⟩) 18 c) ∧ W'.cell? ⟨b, off + k, none⟩ = some (.string x) ∧ W'.cell? ⟨gd, k, none⟩ = some (.int .i64 (d : Int))) wr.drew := ⟨f2, hcell, hdc⟩
      refine wp_region_noPanic ?_
      refine wp_region_L (fun W' : World => W'.cell? ⟨w.heap.size, 1, none⟩ = some (.slice (some ⟨b, off, none⟩) 18 c) ∧ W'.cell? ⟨b, off + k, none⟩ = some (.string x) ∧ W'.cell? ⟨gd, k, none⟩ = some (.int .i64 (d : Int))) 12 hmx ?_
      refine wpAnyL_take (i := 0) (f0 := 14) (v := ?_) rfl (by decide +kernel) (by decide +kernel) (by decide +kernel) (by decide +kernel) (by decide +kernel) (fun _ _ _ h => h) (Or.inl ⟨by rfl, ?_⟩) hHeld ?_
      rotate_left
      · intro wS hS; obtain ⟨hS1, hS2, hS3⟩ := hS; go_simp; (try with_reducible rfl)
      simp only [Act.put, List.setIfInBounds_toArray]
      refine wpAnyL_take (i := 1) (f0 := 14) (v := ?_) rfl (by decide +kernel) (by decide +kernel) (by decide +kernel) (by decide +kernel) (by decide +kernel) (fun _ _ _ h => h) (Or.inl ⟨by rfl, ?_⟩) hHeld ?_
      rotate_left
      · intro wS hS; obtain ⟨hS1, hS2, hS3⟩ := hS; go_simp; (try with_reducible rfl)
      simp only [Act.put]
      refine wpAnyL_take (i := 2) (f0 := 14) (v := ?_) rfl (by decide +kernel) (by decide +kernel) (by decide +kernel) (by decide +kernel) (by decide +kernel) (fun _ _ _ h => h) (Or.inl ⟨by rfl, ?_⟩) hHeld ?_
      rotate_left
      · intro wS hS; obtain ⟨hS1, hS2, hS3⟩ := hS; go_simp; (try with_reducible rfl)
      simp only [Act.put]
      refine wpAnyL_take (i := 3) (f0 := 14) (v := ?_) rfl (by decide +kernel) (by decide +kernel) (by decide +kernel) (by decide +kernel) (by decide +kernel) (fun _ _ _ h => h) (Or.inl ⟨by rfl, ?_⟩) hHeld ?_
      rotate_left
      · intro wS hS; obtain ⟨hS1, hS2, hS3⟩ := hS; go_simp; (try with_reducible rfl)
      simp only [Act.put]
      refine wpAnyL_take (i := 4) (f0 := 14) (v := ?_) rfl (by decide +kernel) (by decide +kernel) (by decide +kernel) (by decide +kernel) (by decide +kernel) (fun _ _ _ h => h) (Or.inl ⟨by rfl, ?_⟩) hHeld ?_
      rotate_left
      · intro wS hS; obtain ⟨hS1, hS2, hS3⟩ := hS; go_simp; (try with_reducible rfl)
      simp only [Act.put]
      refine wpAnyL_take (i := 5) (f0 := 14) (v := ?_) rfl (by decide +kernel) (by decide +kernel) (by decide +kernel) (by decide +kernel) (by decide +kernel) (fun _ _ _ h => h) (Or.inl ⟨by rfl, ?_⟩) hHeld ?_
      rotate_left
      · intro wS hS; obtain ⟨hS1, hS2, hS3⟩ := hS; go_simp; (try with_reducible rfl)
      simp only [Act.put]
      refine wpAnyL_take (i := 6) (f0 := 14) (v := ?_) rfl (by decide +kernel) (by decide +kernel) (by decide +kernel) (by decide +kernel) (by decide +kernel) (fun _ _ _ h => h) (Or.inl ⟨by rfl, ?_⟩) hHeld ?_
      rotate_left
      · intro wS hS; obtain ⟨hS1, hS2, hS3⟩ := hS; go_simp; (try with_reducible rfl)
      simp only [Act.put]
      refine wpAnyL_take (i := 7) (f0 := 14) (v := ?_) rfl (by decide +kernel) (by decide +kernel) (by decide +kernel) (by decide +kernel) (by decide +kernel) (fun _ _ _ h => h) (Or.inl ⟨by rfl, ?_⟩) hHeld ?_
      rotate_left
      · intro wS hS; obtain ⟨hS1, hS2, hS3⟩ := hS; go_simp; (try with_reducible rfl)
      simp only [Act.put]
      refine wpAnyL_take (i := 8) (f0 := 14) (v := ?_) rfl (by decide +kernel) (by decide +kernel) (by decide +kernel) (by decide +kernel) (by decide +kernel) (fun _ _ _ h => h) (Or.inl ⟨by rfl, ?_⟩) hHeld ?_
      rotate_left
      · intro wS hS; obtain ⟨hS1, hS2, hS3⟩ := hS; go_simp; (try with_reducible rfl)
      simp only [Act.put]
      refine wpAnyL_take (i := 9) (f0 := 14) (v := ?_) rfl (by decide +kernel) (by decide +kernel) (by decide +kernel) (by decide +kernel) (by decide +kernel) (fun _ _ _ h => h) (Or.inl ⟨by rfl, ?_⟩) hHeld ?_
      rotate_left
      · intro wS hS; obtain ⟨hS1, hS2, hS3⟩ := hS; go_simp; (try with_reducible rfl)
      simp only [Act.put]
      refine wpAnyL_one (i := 10) (by decide +kernel) (by rfl) (fun K hK => ?_)
      rw [if_pos (by rfl)]
      go_simp
      rw [IntWalk.i64_in (D : Int) (by omega)]
      refine (rchained_any x D (by omega) (by omega) _).mono ?_
      rintro e w1 ⟨⟨g, cap, rfl, hgc, hOc⟩, hb1⟩
      clear hHeld
      have hHeld : (fun W' : World => W'.cell? ⟨w.heap.size, 1, none⟩ = some (.slice (some ⟨b, off, none⟩) 18 c) ∧ W'.cell? ⟨b, off + k, none⟩ = some (.string x) ∧ W'.cell? ⟨gd, k, none⟩ = some (.int .i64 (d : Int))) w1 := ⟨(hb1.cell (by simp <;> omega)).trans f2, (hb1.cell (by simp <;> omega)).trans hcell, (hb1.cell (by simp <;> omega)).trans hdc⟩
      refine hK.out _ _ (Or.inr hHeld) ?_
      clear hK K
      try simp only [Act.put, List.setIfInBounds_toArray, List.set_cons_zero, List.set_cons_succ]
      refine wpAnyL_take (i := 11) (f0 := 14) (v := ?_) rfl (by decide +kernel) (by decide +kernel) (by decide +kernel) (by decide +kernel) (by decide +kernel) (fun _ _ _ h => h) (Or.inl ⟨by rfl, ?_⟩) hHeld ?_
      rotate_left
      · intro wS hS; obtain ⟨hS1, hS2, hS3⟩ := hS; go_simp; (try with_reducible rfl)
      simp only [Act.put, List.setIfInBounds_toArray]
      refine wpAnyL_done (by decide +kernel) ?_ _
      refine NoPanic.normal ?_
      clear hHeld hmx
      have hb1' : Below W0.heap.size W0 w1 := hbr.trans ((below_undrew hb1).mono hbr.size)
      have hL1 := ((hLr.below (Below.refl wr.heap.size wr).drew).made (by exact hbr.size) hb1 hOc).swap
      have hS1 := OwnS.strs' hOc
      have hs1 := hb1'.size
      have hd2 : w1.cell? ⟨gd, k, none⟩ = some (.int .i64 (d : Int)) := (hb1.cell (by simp <;> omega)).trans hdc
      have hgd0 := ((hLr.rot3.head).lt (g := gd) rfl)
      go_wp2_with (first
        | (at_builtin; refine step_la rfl (.tmp 40) (.tmp 41) rfl W0.heap.size _ _ Q (Dg.chained x D) _ rfl hL1 _ (D + 1) cap rfl hxl hS1 (by omega) hs1 ?_; intro v4 w4 hL4 hb4; have hb4' : Below W0.heap.size W0 w4 := hb1'.trans hb4; have hs4 := hb4'.size; have hcC : w4.cell? ⟨g, D, none⟩ = some (.string C0) := (hL4.swap.headS).getc _ _ hxg.out; have hL4' := hL4.rot3; have hdd := int_cell (hL4.tail.rot3.head) hdi.out)
        | (at_builtin; refine step_ll rfl (.tmp 43) (.tmp 52) rfl W0.heap.size _ E [C0] _ _ rfl rfl hL4' 1 1 rfl rfl (by omega) hs4 ?_; intro v5 w5 hL5 hb5))
      go_roundw
      case rel => exact ⟨k + 1, by omega, by go_num, hb4'.trans hb5, by rw [hcs.out, hes.out]; exact hL5.rot3'.rot3'.tail.swap⟩
      case measure => simp [intOf]; omega
    · obtain rfl : k = 18 := by omega
      have hcl := chTo_len m sig 18
      have hel := enTo_len m sig 18
      have hz16 := hide (isB_ends m sig hz'.out)
      have hj := endsB_joined m sig hz'.out
      have hKz : (Dg.jB (Dg.endsB m sig)).size ≤ 1099511627776 := by rw [Dg.jB, Dg.size_B]; exact hj
      rw [← enTo_18] at hj
      have hck : Hid (Dg.checked m i sig path = chTo m sig 18 ++ [Dg.jB (Dg.endsB m sig), Dg.jB [Dg.sLeaf, Dg.listB (Dg.endsB m sig)]] ++ Dg.foldT i (Dg.leafB (Dg.listB (Dg.endsB m sig))) path) := rfl
      have hKT : Hid (Dg.B (Dg.joinedL (enTo m sig 18)) = Dg.jB (Dg.endsB m sig)) := rfl
      have hKS : Hid (Dg.sumB (Dg.jB (Dg.endsB m sig)) = Dg.listB (Dg.endsB m sig)) := Dg.sumB_jB _
      have hk16 : (Dg.listB (Dg.endsB m sig)).size = 16 := listB_size _
      have hLT : Hid (Dg.B (Dg.joinedL [⟨#[108, 101, 97, 102]⟩, Dg.listB (Dg.endsB m sig)]) = Dg.jB [Dg.sLeaf, Dg.listB (Dg.endsB m sig)]) := rfl
      have hLz := jB_size [Dg.sLeaf, Dg.listB (Dg.endsB m sig)] (by simp) (mem2 (by decide) (by omega))
      have hLS : Hid (Dg.sumB (Dg.jB [Dg.sLeaf, Dg.listB (Dg.endsB m sig)]) = Dg.leafB (Dg.listB (Dg.endsB m sig))) := Dg.leaf_eq _
      have hl16 : (Dg.leafB (Dg.listB (Dg.endsB m sig))).size = 16 := listB_size _
      rw [enTo_18] at *
      generalize Dg.jB [Dg.sLeaf, Dg.listB (Dg.endsB m sig)] = LT at *
      generalize Dg.leafB (Dg.listB (Dg.endsB m sig)) = LB at *
      generalize Dg.listB (Dg.endsB m sig) = KB at *
      generalize Dg.jB (Dg.endsB m sig) = KT at *
      generalize Dg.endsB m sig = E at *
      generalize chTo m sig 18 = Q at *
      have hm2 := hide (mem2 (a := ⟨#[108, 101, 97, 102]⟩) (b := KB) (n := 1048576) (by decide) (by omega))
      obtain ⟨Ae, ce, rfl, hce, hSe⟩ := hLr.swap.strs1
      rw [hel] at hLr
      have hel' := hide hel; clear hel
      go_wp2_with fail
      rw [hel'.out]
      refine (joined_of Ae ce 18 E hel'.out KT hKT.out _ (by rw [hel'.out]; decide) hj (mem_le hz16.out (by decide)) hSe).mono ?_
      rintro e w1 ⟨rfl, hb1⟩
      have hb1' := bnext hbr hb1
      have hL1 := hLr.below hb1
      go_wp2_with fail
      refine (rsum_of KT KB hKS.out (by omega) _).mono ?_
      rintro e w2 ⟨rfl, rfl⟩
      go_wp2_with fail
      refine (joined_new [⟨#[108, 101, 97, 102]⟩, KB] _ _ 2 _ rfl (len2 _ _) hm2.out LT hLT.out _ rfl _ rfl).mono ?_
      rintro e w2 ⟨rfl, hb2⟩
      have hb2' := bnext hb1' hb2
      have hL2 := hL1.below hb2
      have hs2 := hb2'.size
      go_wp2_with (at_builtin; refine step_ll rfl (.tmp 60) (.tmp 63) rfl W0.heap.size _ Q [KT, LT] _ _ rfl rfl hL2 2 2 rfl rfl (by omega) hs2 ?_; intro v3 w3 hL3 hb3)
      have hb3' := hb2'.trans hb3
      have hs3 := hb3'.size
      go_wp2_with fail
      refine (rsum_of LT LB hLS.out (by omega) _).mono ?_
      rintro e w4 ⟨rfl, rfl⟩
      obtain ⟨f1, f2, f3⟩ := cells3 (row_next r0 hb3')
      have hL3' : OwnL w3 W0.heap.size [sR v3 (Q ++ [KT, LT])] := ⟨fun r hr => by rw [List.mem_singleton.1 hr]; exact hL3.headS, List.pairwise_singleton _ _⟩
      clear hL3 hL2 hL1 hLr
      have hQl : (Q ++ [KT, LT]).length ≤ 1000 := by rw [List.length_append]; simp only [List.length_cons, List.length_nil]; omega
      generalize Q ++ [KT, LT] = O at *
      go_wp2
      obtain ⟨wo, rfl⟩ : ∃ wo : World, wo = w3 := ⟨_, rfl⟩
      go_loopw [6, 12, 13, 14] (fun ov tv iv kv wr => ∃ (k : Nat) (T : ByteArray) (j : Nat), k ≤ n' ∧ kv = .int .i64 k ∧ Hid (T = Dg.fu i LB (path.take k)) ∧ T.size = 16 ∧ tv = .string T ∧ Hid (j = i / 2 ^ k) ∧ j ≤ 4611686018427387904 ∧ iv = .int .i64 j ∧ Below W0.heap.size W0 wr ∧ OwnL wr W0.heap.size [sR ov (O ++ Dg.foldT i LB (path.take k))]) (fun _ _ _ kv _ => n' - (intOf kv).toNat)
      case atStart => exact ⟨0, LB, i, by omega, rfl, by unfold Hid; rw [List.take_zero]; rfl, hl16, rfl, by unfold Hid; simp, hi, rfl, hb3', by rw [List.take_zero]; show OwnL _ _ [sR _ (O ++ [])]; rw [List.append_nil]; exact hL3'⟩
      case round =>
        obtain ⟨k, T, j, hk, rfl, hT, hTz, rfl, hj, hjl, rfl, hbq, hLq⟩ := hrel
        obtain ⟨f1, f2, f3⟩ := cells3 (row_next r0 hbq)
        by_cases hlt : k < n'
        · have hkl : k < path.length := by rw [hl2'.out]; exact hlt
          obtain ⟨b, off, rfl, hbl, hcell⟩ := (keepS hS2 hbq).get hkl
          have hx16 := hz2'.out path[k] (List.getElem_mem hkl)
          have htk := hide (List.take_succ_eq_append_getElem hkl)
          have htl : (path.take k).length = k := by rw [List.length_take]; omega
          have hfl := foldT_len (path.take k) i LB
          rw [htl] at hfl
          generalize path[k] = x at *
          have hfs := hide (Dg.foldT_snoc (path.take k) x i LB)
          have hus := hide (Dg.fu_snoc (path.take k) x i LB)
          rw [htl, ← hj.out, ← hT.out] at hfs hus
          rw [← htk.out] at hfs hus
          have hjs : Hid (j / 2 = i / 2 ^ (k + 1)) := by unfold Hid; rw [hj.out, Nat.pow_succ, Nat.div_div_eq_div_mul]
          generalize Dg.foldT i LB (path.take k) = FT at *
          have hn1 : Hid (Dg.sumB (Dg.jB [Dg.sNode, T, x]) = Dg.nodeB T x) := rfl
          have hn2 : Hid (Dg.sumB (Dg.jB [Dg.sNode, x, T]) = Dg.nodeB x T) := rfl
          have hn3 : (Dg.nodeB T x).size = 16 := listB_size _
          have hn4 : (Dg.nodeB x T).size = 16 := listB_size _
          have hz1 := jB_size [Dg.sNode, T, x] (by simp) (mem3 (by decide) (by omega) (by omega))
          have hz2 := jB_size [Dg.sNode, x, T] (by simp) (mem3 (by decide) (by omega) (by omega))
          generalize hX1 : Dg.jB [Dg.sNode, T, x] = X1 at *
          generalize hX2 : Dg.jB [Dg.sNode, x, T] = X2 at *
          generalize Dg.nodeB T x = N1 at *
          generalize Dg.nodeB x T = N2 at *
          have HX1 := hide hX1; have HX2 := hide hX2; clear hX1 hX2
          have hlen : (O ++ FT).length + 1 ≤ 1099511627776 := by rw [List.length_append]; omega
          have hk0 : (k : Int) < (n' : Int) := by omega
          go_wp2_with fail
          refine (rnode3_any T x (by omega) (by omega) X1 HX1.out _).mono ?_
          rintro e w5 ⟨rfl, hb5⟩
          have hb5' := bnext hbq hb5
          have hL5 := hLq.below hb5
          have hc5 := (hb5.cell (p := ⟨b, off + k, none⟩) hbl).trans hcell
          obtain ⟨f1, f2, f3⟩ := cells3 (row_next r0 hb5')
          have hs5 := hb5'.size
          by_cases hodd : j % 2 = 1
          · rw [if_pos hodd] at hfs hus
            have ho1 : ((j : Int) % 2 == 1) = true := by rw [beq_iff_eq]; omega
            go_wp2_with fail
            refine (rnode3_any x T (by omega) (by omega) X2 HX2.out _).mono ?_
            rintro e w6 ⟨rfl, hb6⟩
            have hb6' := bnext hb5' hb6
            have hL6 := hL5.below hb6
            have hs6 := hb6'.size
            go_wp2_with (at_builtin; refine step_ll rfl (.tmp 93) (.tmp 95) rfl W0.heap.size _ (O ++ FT) [X2] _ _ rfl rfl hL6 1 1 rfl rfl hlen hs6 ?_; intro v7 w7 hL7 hb7)
            refine (rsum_of X2 N2 hn2.out (by omega) _).mono ?_
            rintro e w8 ⟨rfl, rfl⟩
            go_wp2
            go_roundw
            case rel => exact ⟨k + 1, N2, j / 2, by omega, by go_num, hus.out.symm, hn4, rfl, hjs, by omega, by go_num, hb6'.trans hb7, by rw [hfs.out, ← List.append_assoc]; exact hL7⟩
            case measure => simp [intOf]; omega
          · rw [if_neg hodd] at hfs hus
            have ho1 : ((j : Int) % 2 == 1) = false := by rw [beq_eq_false_iff_ne]; omega
            go_wp2_with (at_builtin; refine step_ll rfl (.tmp 93) (.tmp 95) rfl W0.heap.size _ (O ++ FT) [X1] _ _ rfl rfl hL5 1 1 rfl rfl hlen hs5 ?_; intro v7 w7 hL7 hb7)
            refine (rsum_of X1 N1 hn1.out (by omega) _).mono ?_
            rintro e w8 ⟨rfl, rfl⟩
            go_wp2
            go_roundw
            case rel => exact ⟨k + 1, N1, j / 2, by omega, by go_num, hus.out.symm, hn3, rfl, hjs, by omega, by go_num, hb5'.trans hb7, by rw [hfs.out, ← List.append_assoc]; exact hL7⟩
            case measure => simp [intOf]; omega
        · obtain rfl : n' = k := by omega
          have hO := hLq.headS
          rw [← hl2'.out, List.take_length, ← hck.out] at hO
          go_wp2
          go_ret
          exact ⟨⟨_, rfl, hO.base hW.size⟩, hW.trans (hbq.mono hW.size)⟩
end Go.Proofs.YtadmidkpchonhaaDoor
/- Sizes of what is digested when a seal is verified. -/
namespace Go.Proofs.YtadmidkpchonhaaDoor
open Go Go.RowKit Go.Sort
theorem chained_16 {S : ByteArray} (h : S.size ≤ 16) (n : Nat) : ∀ t ∈ Dg.chained S n, t.size ≤ 4194304 := fun t ht => by
  unfold Dg.chained at ht
  obtain ⟨j, _, rfl⟩ := List.mem_map.1 ht
  have := Dg.chainB_le S j
  omega
theorem fu_16 (q : List ByteArray) : ∀ (i : Nat) (d : ByteArray), d.size = 16 → (Dg.fu i d q).size = 16 := by
  induction q with
  | nil => intro i d h; exact h
  | cons a q ih =>
    intro i d _
    rw [Dg.fu]
    refine ih _ _ ?_
    split <;> exact listB_size _
theorem foldT_size (q : List ByteArray) : ∀ (i : Nat) (d : ByteArray), d.size = 16 → (∀ s ∈ q, s.size = 16) → ∀ t ∈ Dg.foldT i d q, t.size ≤ 4194304 := by
  induction q with
  | nil => intro _ _ _ _ t ht; cases ht
  | cons a q ih =>
    intro i d hd hq t ht
    have ha := hq a (by simp)
    rw [Dg.foldT] at ht
    rcases List.mem_cons.1 ht with rfl | ht
    · split
      · exact jB_size _ (by simp) (mem3 (by decide) (by omega) (by omega))
      · exact jB_size _ (by simp) (mem3 (by decide) (by omega) (by omega))
    · exact ih _ _ (by split <;> exact listB_size _) (fun s hs => hq s (List.mem_cons_of_mem _ hs)) t ht
theorem checked_size (m : ByteArray) (i : Nat) (sig path : List ByteArray) (hs : ∀ s ∈ sig, s.size = 16) (hp : ∀ s ∈ path, s.size = 16) : ∀ t ∈ Dg.checked m i sig path, t.size ≤ 4611686018427387904 := fun t ht => by
  unfold Dg.checked at ht
  rcases List.mem_append.1 ht with ht | ht
  · rcases List.mem_append.1 ht with ht | ht
    · obtain ⟨k, _, ht⟩ := List.mem_flatMap.1 ht
      refine Nat.le_trans (chained_16 ?_ _ t ht) (by decide)
      rw [List.getD_eq_getElem?_getD]
      cases hg : sig[k]? with
      | none => decide
      | some s => exact Nat.le_of_eq (hs s (List.mem_of_getElem? hg))
    · rcases List.mem_cons.1 ht with rfl | ht
      · rw [Dg.jB, Dg.size_B]
        have := endsB_joined m sig hs
        omega
      · rw [List.mem_singleton.1 ht]
        exact Nat.le_trans (jB_size [Dg.sLeaf, _] (by simp) (mem2 (by decide) (by rw [listB_size]; decide))) (by decide)
  · exact Nat.le_trans (foldT_size path i _ (listB_size _) hp t ht) (by decide)
theorem checked_len (m : ByteArray) (i : Nat) (sig path : List ByteArray) : 1 ≤ (Dg.checked m i sig path).length ∧ (Dg.checked m i sig path).length ≤ 1000 + path.length := by
  have h1 := chTo_len m sig 18
  unfold Dg.checked
  rw [List.length_append, List.length_append, foldT_len]
  unfold chTo at h1
  simp only [List.length_cons, List.length_nil]
  omega
end Go.Proofs.YtadmidkpchonhaaDoor
/- SealSound. -/
namespace Go.Proofs.YtadmidkpchonhaaDoor
open Go Go.RowKit Go.Sort
theorem sound_plain (s m : ByteArray) (h : Nat) (hh : h ≤ 2) (i : Nat) (sig path : List ByteArray) (hv : verifyB (Dg.publicB s h) m i sig path = true) :
    (i < 2 ^ h ∧ sig = Dg.sigB s i m ∧ path = Dg.sealPath s h i) ∨ Dg.Shown (Dg.made s h 15 ++ Dg.checked m i sig path) := by
  obtain ⟨h1, _, h3, h4, _, h6, h7⟩ := (verifyB_iff _ _ _ _ _).1 hv
  rw [Int.toNat_natCast] at h7
  rcases Dg.seal_sound s h m i sig path hh h1 (isB_16 h3) (isB_16 h4) (by omega) h7 with ⟨h8, h9, h10⟩ | h8
  · exact Or.inl ⟨by rw [h8] at h6; omega, h9, h10⟩
  · exact Or.inr h8
set_option maxRecDepth 100000 in
set_option maxHeartbeats 8000000 in
theorem law_sound (s m : ByteArray) (r : Nat) (I : Int) (A : Option Addr) (c : Nat) (SG : List ByteArray) (A' : Option Addr) (c' : Nat) (PT : List ByteArray) (w : World) (he : Env w) (hr : r ≤ 255) (hs : s.size ≤ 9223372036854775807) (hm : m.size ≤ 9223372036854775807)
    (hl : SG.length ≤ 9223372036854775807) (hls : ∀ s ∈ SG, s.size ≤ 9223372036854775807) (hS : Strs w w.heap.size A SG) (hc : SG.length ≤ c) (hl2 : PT.length ≤ 9223372036854775807) (hls2 : ∀ s ∈ PT, s.size ≤ 9223372036854775807) (hS' : Strs w w.heap.size A' PT) :
    Calls Tryd.prog 4 #[.string s, .int .u8 r, .string m, .agg #[.int .i64 I, .slice A SG.length c, .slice A' PT.length c']] w fun e w' => e = .returned (.bool true) ∧ Below w.heap.size w w' := by
  have hm2 := hide (mem2 (a := s) (b := m) (n := 9223372036854775807) hs hm)
  have Hls := hide hls; have Hls2 := hide hls2; clear hls hls2
  obtain ⟨ns, hns⟩ : ∃ ns, SG.length = ns := ⟨_, rfl⟩
  obtain ⟨n, hn⟩ : ∃ n, PT.length = n := ⟨_, rfl⟩
  rw [hns] at hl hc ⊢
  rw [hn] at hl2 ⊢
  have Hns := hide hns; have Hn := hide hn; clear hns hn
  obtain ⟨h, hh⟩ : ∃ h : Nat, r % 3 = h := ⟨_, rfl⟩
  have h3 : h ≤ 2 := by omega
  have e1 : (r : Int) % 3 = (h : Int) := by omega
  obtain ⟨N, hN⟩ : ∃ N : Nat, 2 ^ h = N := ⟨_, rfl⟩
  have HN := hide hN; clear hN hh
  go_enter Tryd.func4, Tryd.ntmps4
  go_wp2_with fail
  have hW := Below.news (Below.refl w.heap.size w) (.cells #[.int .i64 I, .slice A ns c, .slice A' n c'] 29)
  have r0 := heap_alloc_new w (.cells #[.int .i64 I, .slice A ns c, .slice A' n c'] 29)
  replace hS := keepS hS hW
  replace hS' := keepS hS' hW
  replace he := he.next hW
  have hb := hW
  generalize w.alloc (.cells #[.int .i64 I, .slice A ns c, .slice A' n c'] 29) = W0 at *
  obtain ⟨q, hq⟩ : ∃ q, w.heap.size = q := ⟨_, rfl⟩
  rw [hq] at r0 ⊢
  have Hq := hide hq; clear hq hW
  refine (head3_of W0 he).mono ?_
  rintro e w1 ⟨rfl, hb1⟩
  replace he := he.next hb1
  replace hS := keepS hS hb1
  replace hS' := keepS hS' hb1
  replace r0 := row_next r0 hb1
  replace hb := bnext hb hb1; clear hb1
  go_wp2_with fail
  cases hsh : shortB [s, m] with
  | false =>
    refine (short3_new [s, m] _ _ 2 _ rfl (by decide) hm2.out false hsh _ rfl _ rfl).mono ?_
    rintro e w2 ⟨rfl, rfl⟩
    go_wp2
    go_ret
    exact ⟨rfl, hb.alloc hb.size _⟩
  | true =>
    obtain ⟨zs, zm⟩ := short2 hsh
    have hsh' := hide hsh; clear hsh
    refine (short3_new [s, m] _ _ 2 _ rfl (by decide) hm2.out true hsh'.out _ rfl _ rfl).mono ?_
    rintro e w2 ⟨rfl, rfl⟩
    obtain ⟨f1, f2, f3⟩ := cells3 r0
    have hql1 : q < w1.heap.size := block_lt_of_cell f1
    have hS2 := keepS hS (Below.news (Below.refl _ _) (.cells #[.string s, .string m] 9))
    have hS2' := keepS hS' (Below.news (Below.refl _ _) (.cells #[.string s, .string m] 9))
    go_wp2_with fail
    cases hf : fewS SG PT with
    | false =>
      refine (rfew3_of I A A' c c' ns n SG PT false hf _ Hns.out Hn.out hl hl2 Hls.out Hls2.out hS2 hS2').mono ?_
      rintro e w3 ⟨rfl, hb3⟩
      go_wp2
      go_ret
      exact ⟨rfl, bnextA hb hb3⟩
    | true =>
      obtain ⟨⟨fs1, fs2⟩, fp1, fp2⟩ := (fewS_iff SG PT).1 hf
      have zsg := hide (mem_le (n := 1073741824) fs2 (by decide))
      have zpt := hide (mem_le (n := 1073741824) fp2 (by decide))
      rw [Hns.out] at fs1
      rw [Hn.out] at fp1
      have hf' := hide hf; clear hf fs2 fp2
      refine (rfew3_of I A A' c c' ns n SG PT true hf'.out _ Hns.out Hn.out hl hl2 Hls.out Hls2.out hS2 hS2').mono ?_
      rintro e w3 ⟨rfl, hb3⟩
      have hb3' := bnextA (Below.refl _ _) hb3
      replace he := he.next hb3'
      replace hS := keepS hS hb3'
      replace hS' := keepS hS' hb3'
      replace r0 := row_next r0 hb3'
      replace hb := bnext hb hb3'
      clear hb3 hb3' f1 f2 f3 hS2 hS2'
      obtain ⟨P, hP⟩ : ∃ P, Dg.publicB s h = P := ⟨_, rfl⟩
      have HP := hide hP; clear hP
      go_wp2_with fail
      refine (public_any s h (by omega) (by omega) P HP.out _ he).mono ?_
      rintro e w4 ⟨rfl, hb4⟩
      replace he := he.next hb4
      replace hS := keepS hS hb4
      replace hS' := keepS hS' hb4
      replace r0 := row_next r0 hb4
      replace hb := bnext hb hb4
      clear hb4
      obtain ⟨f1, f2, f3⟩ := cells3 r0
      go_wp2_with fail
      cases hv : verifyB P m I SG PT with
      | false =>
        refine (verify_of P m I A A' ns n c c' SG PT _ he (by omega) Hns.out zsg.out hS Hn.out zpt.out hS' hc false hv).mono ?_
        rintro e w5 ⟨rfl, hb5⟩
        go_wp2
        go_ret
        exact ⟨rfl, bnext hb hb5⟩
      | true =>
        obtain ⟨v1, v2, v3, v4, v5, v6, _⟩ := (verifyB_iff _ _ _ _ _).1 hv
        obtain ⟨i, rfl⟩ := Int.eq_ofNat_of_zero_le v5
        obtain rfl : ns = 18 := Hns.out.symm.trans v1
        have hi256 : i < 256 := by
          have := pow_le8 _ v2
          omega
        rw [Hn.out] at v2
        have hpl := hide (sound_plain s m h h3 i SG PT (by rw [HP.out]; exact hv))
        have HV := hide hv; clear hv v6 v1
        have hS16 := hide (isB_16 v3); have hT16 := hide (isB_16 v4); clear v3 v4
        refine (verify_of P m i A A' 18 n c c' SG PT _ he (by omega) Hns.out zsg.out hS Hn.out zpt.out hS' hc true HV.out).mono ?_
        rintro e w5 ⟨rfl, hb5⟩
        replace he := he.next hb5
        replace hS := keepS hS hb5
        replace hS' := keepS hS' hb5
        replace r0 := row_next r0 hb5
        replace hb := bnext hb hb5
        clear hb5 f1 f2 f3
        obtain ⟨f1, f2, f3⟩ := cells3 r0
        have l1 := made_len s h 15 h3 (by decide)
        have z1 := hide (made_size s (by omega) h 15)
        have l2 := checked_len m i SG PT
        have z2 := hide (checked_size m i SG PT hS16.out hT16.out)
        rw [Hn.out] at l2
        have k1 := fun W => made_any s h 15 (by omega) (by omega) (by decide) (by decide) W
        have k2 := fun (W : World) (hSW : Strs W W.heap.size A SG) (hSW' : Strs W W.heap.size A' PT) => checked_any m i A A' c c' n SG PT W (by omega) (by omega) Hns.out hS16.out hSW Hn.out fp1 hT16.out hSW'
        generalize Dg.made s h 15 = M1 at *
        generalize Dg.checked m i SG PT = M2 at *
        have K1 := hide k1; have K2 := hide k2; clear k1 k2
        have mz := hide (mem_app z1.out z2.out)
        have hi0 : (0 : Int) ≤ (i : Int) := by omega
        by_cases hiN : i < N
        · obtain ⟨OSG, hOS⟩ : ∃ O, Dg.sigB s i m = O := ⟨_, rfl⟩
          obtain ⟨OPT, hOP⟩ : ∃ O, Dg.sealPath s h i = O := ⟨_, rfl⟩
          have hOl := hide (Dg.sigB_len s i m)
          have hOl2 := hide (Dg.sealPath_len s h i (by rw [HN.out]; exact hiN))
          rw [hOS] at hOl hpl
          rw [hOP] at hOl2 hpl
          have HOS := hide hOS; have HOP := hide hOP; clear hOS hOP
          go_wp2_with fail
          refine (sign_of s m _ _ h i rfl rfl (by omega) (by omega) (by omega) (by rw [HN.out]; exact hiN) OSG OPT HOS.out HOP.out _ he).mono ?_
          rintro e w6 ⟨B, d, B', d', rfl, hd, hd', hT, hT', hb6⟩
          replace he := he.next hb6
          replace hS := keepS hS hb6
          replace hS' := keepS hS' hb6
          replace r0 := row_next r0 hb6
          replace hb := bnext hb hb6
          clear hb6 f1 f2 f3
          obtain ⟨f1, f2, f3⟩ := cells3 r0
          have hq6 : q < w6.heap.size := block_lt_of_cell f1
          have hSa := keepS hS (Below.news (Below.refl _ _) (.cells #[.int .i64 i, .slice B 18 d, .slice B' h d'] 29))
          have hSa' := keepS hS' (Below.news (Below.refl _ _) (.cells #[.int .i64 i, .slice B 18 d, .slice B' h d'] 29))
          have hTa := keepS hT (Below.news (Below.refl _ _) (.cells #[.int .i64 i, .slice B 18 d, .slice B' h d'] 29))
          have hTa' := keepS hT' (Below.news (Below.refl _ _) (.cells #[.int .i64 i, .slice B 18 d, .slice B' h d'] 29))
          go_wp2_with fail
          cases hsm : sameS (i : Int) (i : Int) OSG SG OPT PT with
          | true =>
            refine (rsame3_of i i B A B' A' d c d' c' 18 18 h n OSG SG OPT PT true hsm _ hOl.out Hns.out hOl2.out Hn.out (by omega) (by omega) (by omega) (by omega) hTa hSa hTa' hSa').mono ?_
            rintro e w7 ⟨rfl, hb7⟩
            go_wp2
            go_ret
            exact ⟨rfl, bnextA hb hb7⟩
          | false =>
            have hshown := hide (by
              rcases hpl.out with ⟨_, h9, h10⟩ | h8
              · rw [(sameS_iff _ _ _ _ _ _).2 ⟨rfl, h9.symm, h10.symm⟩] at hsm
                cases hsm
              · exact h8 : Dg.Shown (M1 ++ M2))
            have hsm' := hide hsm; clear hsm
            refine (rsame3_of i i B A B' A' d c d' c' 18 18 h n OSG SG OPT PT false hsm'.out _ hOl.out Hns.out hOl2.out Hn.out (by omega) (by omega) (by omega) (by omega) hTa hSa hTa' hSa').mono ?_
            rintro e w7 ⟨rfl, hb7⟩
            have hb7' := bnextA (Below.refl _ _) hb7
            have hS5 := keepS hS hb7'
            have hS5' := keepS hS' hb7'
            obtain ⟨c0, c1, c2⟩ := cells3 (row_next r0 hb7')
            replace hb := bnext hb hb7'
            clear hb7 hb7' f1 f2 f3 hSa hSa' hTa hTa' hS hS'
            go_wp2
            have hmx : Tryd.prog.follows .mixedOrders = true := by kernel_rfl
            have hHeld : (fun W' : World => W'.cell? ⟨q, 0, none⟩ = some (.int .i64 (i : Int)) ∧ W'.cell? ⟨q, 1, none⟩ = some (.slice A 18 c) ∧ W'.cell? ⟨q, 2, none⟩ = some (.slice A' n c')) w7.drew := ⟨c0, c1, c2⟩
            have hgW : q < w7.heap.size := block_lt_of_cell c0
            refine wp_region_noPanic ?_
            refine wp_region_L (fun W' : World => W'.cell? ⟨q, 0, none⟩ = some (.int .i64 (i : Int)) ∧ W'.cell? ⟨q, 1, none⟩ = some (.slice A 18 c) ∧ W'.cell? ⟨q, 2, none⟩ = some (.slice A' n c')) 12 hmx ?_
            refine wpAnyL_take (i := 0) (f0 := 14) (v := ?_) rfl (by decide +kernel) (by decide +kernel) (by decide +kernel) (by decide +kernel) (by decide +kernel) (fun _ _ _ h => h) (Or.inl ⟨by rfl, ?_⟩) hHeld ?_
            rotate_left
            · intro wS hS; obtain ⟨hS1, hS2, hS3⟩ := hS; go_simp; (try with_reducible rfl)
            simp only [Act.put, List.setIfInBounds_toArray]
            refine wpAnyL_take (i := 1) (f0 := 14) (v := ?_) rfl (by decide +kernel) (by decide +kernel) (by decide +kernel) (by decide +kernel) (by decide +kernel) (fun _ _ _ h => h) (Or.inl ⟨by rfl, ?_⟩) hHeld ?_
            rotate_left
            · intro wS hS; obtain ⟨hS1, hS2, hS3⟩ := hS; go_simp; (try with_reducible rfl)
            simp only [Act.put]
            refine wpAnyL_take (i := 2) (f0 := 14) (v := ?_) rfl (by decide +kernel) (by decide +kernel) (by decide +kernel) (by decide +kernel) (by decide +kernel) (fun _ _ _ h => h) (Or.inl ⟨by rfl, ?_⟩) hHeld ?_
            rotate_left
            · intro wS hS; obtain ⟨hS1, hS2, hS3⟩ := hS; go_simp; (try with_reducible rfl)
            simp only [Act.put]
            refine wpAnyL_take (i := 3) (f0 := 14) (v := ?_) rfl (by decide +kernel) (by decide +kernel) (by decide +kernel) (by decide +kernel) (by decide +kernel) (fun _ _ _ h => h) (Or.inl ⟨by rfl, ?_⟩) hHeld ?_
            rotate_left
            · intro wS hS; obtain ⟨hS1, hS2, hS3⟩ := hS; go_simp; (try with_reducible rfl)
            simp only [Act.put]
            refine wpAnyL_take (i := 5) (f0 := 14) (v := ?_) rfl (by decide +kernel) (by decide +kernel) (by decide +kernel) (by decide +kernel) (by decide +kernel) (fun _ _ _ h => h) (Or.inl ⟨by rfl, ?_⟩) hHeld ?_
            rotate_left
            · intro wS hS; obtain ⟨hS1, hS2, hS3⟩ := hS; go_simp; (try with_reducible rfl)
            simp only [Act.put]
            refine wpAnyL_take (i := 6) (f0 := 14) (v := ?_) rfl (by decide +kernel) (by decide +kernel) (by decide +kernel) (by decide +kernel) (by decide +kernel) (fun _ _ _ h => h) (Or.inl ⟨by rfl, ?_⟩) hHeld ?_
            rotate_left
            · intro wS hS; obtain ⟨hS1, hS2, hS3⟩ := hS; go_simp; (try with_reducible rfl)
            simp only [Act.put]
            refine wpAnyL_one (i := 4) (by decide +kernel) (by rfl) (fun K hK => ?_)
            rw [if_pos (by rfl)]
            go_simp
            refine (K1.out _).mono ?_
            rintro e wa ⟨⟨v1, rfl, hO1⟩, hba⟩
            have hsa : w7.heap.size ≤ wa.heap.size := hba.size
            have hX : (fun W' : World => W'.cell? ⟨q, 0, none⟩ = some (.int .i64 (i : Int)) ∧ W'.cell? ⟨q, 1, none⟩ = some (.slice A 18 c) ∧ W'.cell? ⟨q, 2, none⟩ = some (.slice A' n c')) wa := ⟨(hba.cell (by simp <;> omega)).trans hHeld.1, (hba.cell (by simp <;> omega)).trans hHeld.2.1, (hba.cell (by simp <;> omega)).trans hHeld.2.2⟩
            clear hHeld
            have hHeld := hX; clear hX
            obtain ⟨g1, c1', rfl, hg1, hg1'⟩ := hO1.full (by omega)
            refine hK.out _ _ (Or.inr hHeld) ?_
            clear hK K
            try simp only [Act.put, List.setIfInBounds_toArray, List.set_cons_zero, List.set_cons_succ]
            refine wpAnyL_one (i := 7) (by decide +kernel) (by rfl) (fun K hK => ?_)
            rw [if_pos (by rfl)]
            go_simp
            refine (K2.out wa (keepS hS5 (below_undrew hba)) (keepS hS5' (below_undrew hba))).mono ?_
            rintro e wb ⟨⟨v2, rfl, hO2⟩, hbb⟩
            have hsb := hbb.size
            have hX : (fun W' : World => W'.cell? ⟨q, 0, none⟩ = some (.int .i64 (i : Int)) ∧ W'.cell? ⟨q, 1, none⟩ = some (.slice A 18 c) ∧ W'.cell? ⟨q, 2, none⟩ = some (.slice A' n c')) wb := ⟨(hbb.cell (by simp <;> omega)).trans hHeld.1, (hbb.cell (by simp <;> omega)).trans hHeld.2.1, (hbb.cell (by simp <;> omega)).trans hHeld.2.2⟩
            clear hHeld
            have hHeld := hX; clear hX
            have hO1' := hO1.below hbb
            obtain ⟨A2z, c2z, rfl, hc2z, hS2z⟩ := hO2.strs
            refine hK.out _ _ (Or.inr hHeld) ?_
            clear hK K
            try simp only [Act.put, List.setIfInBounds_toArray, List.set_cons_zero, List.set_cons_succ]
            have hLz : OwnL wb w7.heap.size [sR (.slice (some ⟨g1, 0, none⟩) M1.length c1') M1] := ⟨fun r hr => by rw [List.mem_singleton.1 hr]; exact hO1', List.pairwise_singleton _ _⟩
            refine wpAnyL_one (i := 8) (by decide +kernel) (by rfl) (fun K hK => ?_)
            rw [if_pos (by rfl)]
            refine wp_al (.tmp 65) (.tmp 68) 27 9 _ 16 (by rfl) Tryd.underlying27 strInfo rfl (by omega) w7.heap.size _ _ _ (by rfl) hLz A2z M2.length c2z (M2.map .string) (by rfl) (by rw [List.length_map]) (Src.strs hS2z) (by rw [List.length_map]; omega) (by omega) ?_
            intro v8 wc hL8 hb8
            rw [← List.map_append] at hL8
            obtain ⟨A8, c8, hv8, hc8, hS8⟩ := OwnL.strs1 (l := M1 ++ M2) hL8
            rw [List.length_append] at hv8
            subst hv8
            have hsc := hb8.size
            have hX : (fun W' : World => W'.cell? ⟨q, 0, none⟩ = some (.int .i64 (i : Int)) ∧ W'.cell? ⟨q, 1, none⟩ = some (.slice A 18 c) ∧ W'.cell? ⟨q, 2, none⟩ = some (.slice A' n c')) wc := ⟨(hb8.cell (by simp <;> omega)).trans hHeld.1, (hb8.cell (by simp <;> omega)).trans hHeld.2.1, (hb8.cell (by simp <;> omega)).trans hHeld.2.2⟩
            clear hHeld
            have hHeld := hX; clear hX
            refine hK.out _ _ (Or.inr hHeld) ?_
            clear hK K
            try simp only [Act.put, List.setIfInBounds_toArray]
            refine wpAnyL_one (i := 9) (by decide +kernel) (by rfl) (fun K hK => ?_)
            rw [if_pos (by rfl)]
            go_simp
            refine (shown_any A8 c8 (M1.length + M2.length) (M1 ++ M2) wc List.length_append (by omega) mz.out hS8 hshown.out).mono ?_
            rintro e wd ⟨rfl, hbd⟩
            have hX : (fun W' : World => W'.cell? ⟨q, 0, none⟩ = some (.int .i64 (i : Int)) ∧ W'.cell? ⟨q, 1, none⟩ = some (.slice A 18 c) ∧ W'.cell? ⟨q, 2, none⟩ = some (.slice A' n c')) wd := ⟨(hbd.cell (by simp <;> omega)).trans hHeld.1, (hbd.cell (by simp <;> omega)).trans hHeld.2.1, (hbd.cell (by simp <;> omega)).trans hHeld.2.2⟩
            clear hHeld
            have hHeld := hX; clear hX
            refine hK.out _ _ (Or.inr hHeld) ?_
            clear hK K
            try simp only [Act.put, List.setIfInBounds_toArray, List.set_cons_zero, List.set_cons_succ]
            refine wpAnyL_take (i := 10) (f0 := 14) (v := ?_) rfl (by decide +kernel) (by decide +kernel) (by decide +kernel) (by decide +kernel) (by decide +kernel) (fun _ _ _ h => h) (Or.inl ⟨by rfl, ?_⟩) hHeld ?_
            rotate_left
            · intro wS hS; obtain ⟨hS1, hS2, hS3⟩ := hS; go_simp; (try with_reducible rfl)
            simp only [Act.put, List.setIfInBounds_toArray]
            refine wpAnyL_take (i := 11) (f0 := 14) (v := ?_) rfl (by decide +kernel) (by decide +kernel) (by decide +kernel) (by decide +kernel) (by decide +kernel) (fun _ _ _ h => h) (Or.inl ⟨by rfl, ?_⟩) hHeld ?_
            rotate_left
            · intro wS hS; obtain ⟨hS1, hS2, hS3⟩ := hS; go_simp; (try with_reducible rfl)
            simp only [Act.put]
            refine wpAnyL_done (by decide +kernel) ?_ _
            refine NoPanic.normal ?_
            go_wp2
            go_ret
            exact ⟨rfl, bnext ((bnext (bnext hb (below_undrew hba)) hbb).trans (hb8.mono (by have := hb.size; omega))) hbd⟩
        · have hshown := hide (by
            rcases hpl.out with ⟨h8, _, _⟩ | h8
            · exact absurd h8 (by rw [HN.out]; exact hiN)
            · exact h8 : Dg.Shown (M1 ++ M2))
          go_wp2_with fail
          refine (sign_bad_i s m h N i (by omega) HN.out (Or.inr (by omega)) _).mono ?_
          rintro e w6 ⟨rfl, hb6⟩
          replace hS := keepS hS hb6
          replace hS' := keepS hS' hb6
          replace r0 := row_next r0 hb6
          replace hb := bnext hb hb6
          clear hb6 f1 f2 f3
          obtain ⟨f1, f2, f3⟩ := cells3 r0
          have hq6 : q < w6.heap.size := block_lt_of_cell f1
          have hx := Below.news (Below.refl w6.heap.size w6) (.cells #[.int .i64 0, .slice none 0 0, .slice none 0 0] 29)
          have hS5 := keepS hS hx
          have hS5' := keepS hS' hx
          obtain ⟨c0, c1, c2⟩ := cells3 (row_next r0 hx)
          replace hb := bnext hb hx
          clear hx
          go_wp2
          generalize w6.alloc (.cells #[.int .i64 0, .slice none 0 0, .slice none 0 0] 29) = w7 at *
          have hmx : Tryd.prog.follows .mixedOrders = true := by kernel_rfl
          have hHeld : (fun W' : World => W'.cell? ⟨q, 0, none⟩ = some (.int .i64 (i : Int)) ∧ W'.cell? ⟨q, 1, none⟩ = some (.slice A 18 c) ∧ W'.cell? ⟨q, 2, none⟩ = some (.slice A' n c')) w7.drew := ⟨c0, c1, c2⟩
          have hgW : q < w7.heap.size := block_lt_of_cell c0
          refine wp_region_noPanic ?_
          refine wp_region_L (fun W' : World => W'.cell? ⟨q, 0, none⟩ = some (.int .i64 (i : Int)) ∧ W'.cell? ⟨q, 1, none⟩ = some (.slice A 18 c) ∧ W'.cell? ⟨q, 2, none⟩ = some (.slice A' n c')) 12 hmx ?_
          refine wpAnyL_take (i := 0) (f0 := 14) (v := ?_) rfl (by decide +kernel) (by decide +kernel) (by decide +kernel) (by decide +kernel) (by decide +kernel) (fun _ _ _ h => h) (Or.inl ⟨by rfl, ?_⟩) hHeld ?_
          rotate_left
          · intro wS hS; obtain ⟨hS1, hS2, hS3⟩ := hS; go_simp; (try with_reducible rfl)
          simp only [Act.put, List.setIfInBounds_toArray]
          refine wpAnyL_take (i := 1) (f0 := 14) (v := ?_) rfl (by decide +kernel) (by decide +kernel) (by decide +kernel) (by decide +kernel) (by decide +kernel) (fun _ _ _ h => h) (Or.inl ⟨by rfl, ?_⟩) hHeld ?_
          rotate_left
          · intro wS hS; obtain ⟨hS1, hS2, hS3⟩ := hS; go_simp; (try with_reducible rfl)
          simp only [Act.put]
          refine wpAnyL_take (i := 2) (f0 := 14) (v := ?_) rfl (by decide +kernel) (by decide +kernel) (by decide +kernel) (by decide +kernel) (by decide +kernel) (fun _ _ _ h => h) (Or.inl ⟨by rfl, ?_⟩) hHeld ?_
          rotate_left
          · intro wS hS; obtain ⟨hS1, hS2, hS3⟩ := hS; go_simp; (try with_reducible rfl)
          simp only [Act.put]
          refine wpAnyL_take (i := 3) (f0 := 14) (v := ?_) rfl (by decide +kernel) (by decide +kernel) (by decide +kernel) (by decide +kernel) (by decide +kernel) (fun _ _ _ h => h) (Or.inl ⟨by rfl, ?_⟩) hHeld ?_
          rotate_left
          · intro wS hS; obtain ⟨hS1, hS2, hS3⟩ := hS; go_simp; (try with_reducible rfl)
          simp only [Act.put]
          refine wpAnyL_take (i := 5) (f0 := 14) (v := ?_) rfl (by decide +kernel) (by decide +kernel) (by decide +kernel) (by decide +kernel) (by decide +kernel) (fun _ _ _ h => h) (Or.inl ⟨by rfl, ?_⟩) hHeld ?_
          rotate_left
          · intro wS hS; obtain ⟨hS1, hS2, hS3⟩ := hS; go_simp; (try with_reducible rfl)
          simp only [Act.put]
          refine wpAnyL_take (i := 6) (f0 := 14) (v := ?_) rfl (by decide +kernel) (by decide +kernel) (by decide +kernel) (by decide +kernel) (by decide +kernel) (fun _ _ _ h => h) (Or.inl ⟨by rfl, ?_⟩) hHeld ?_
          rotate_left
          · intro wS hS; obtain ⟨hS1, hS2, hS3⟩ := hS; go_simp; (try with_reducible rfl)
          simp only [Act.put]
          refine wpAnyL_one (i := 4) (by decide +kernel) (by rfl) (fun K hK => ?_)
          rw [if_pos (by rfl)]
          go_simp
          refine (K1.out _).mono ?_
          rintro e wa ⟨⟨v1, rfl, hO1⟩, hba⟩
          have hsa : w7.heap.size ≤ wa.heap.size := hba.size
          have hX : (fun W' : World => W'.cell? ⟨q, 0, none⟩ = some (.int .i64 (i : Int)) ∧ W'.cell? ⟨q, 1, none⟩ = some (.slice A 18 c) ∧ W'.cell? ⟨q, 2, none⟩ = some (.slice A' n c')) wa := ⟨(hba.cell (by simp <;> omega)).trans hHeld.1, (hba.cell (by simp <;> omega)).trans hHeld.2.1, (hba.cell (by simp <;> omega)).trans hHeld.2.2⟩
          clear hHeld
          have hHeld := hX; clear hX
          obtain ⟨g1, c1', rfl, hg1, hg1'⟩ := hO1.full (by omega)
          refine hK.out _ _ (Or.inr hHeld) ?_
          clear hK K
          try simp only [Act.put, List.setIfInBounds_toArray, List.set_cons_zero, List.set_cons_succ]
          refine wpAnyL_one (i := 7) (by decide +kernel) (by rfl) (fun K hK => ?_)
          rw [if_pos (by rfl)]
          go_simp
          refine (K2.out wa (keepS hS5 (below_undrew hba)) (keepS hS5' (below_undrew hba))).mono ?_
          rintro e wb ⟨⟨v2, rfl, hO2⟩, hbb⟩
          have hsb := hbb.size
          have hX : (fun W' : World => W'.cell? ⟨q, 0, none⟩ = some (.int .i64 (i : Int)) ∧ W'.cell? ⟨q, 1, none⟩ = some (.slice A 18 c) ∧ W'.cell? ⟨q, 2, none⟩ = some (.slice A' n c')) wb := ⟨(hbb.cell (by simp <;> omega)).trans hHeld.1, (hbb.cell (by simp <;> omega)).trans hHeld.2.1, (hbb.cell (by simp <;> omega)).trans hHeld.2.2⟩
          clear hHeld
          have hHeld := hX; clear hX
          have hO1' := hO1.below hbb
          obtain ⟨A2z, c2z, rfl, hc2z, hS2z⟩ := hO2.strs
          refine hK.out _ _ (Or.inr hHeld) ?_
          clear hK K
          try simp only [Act.put, List.setIfInBounds_toArray, List.set_cons_zero, List.set_cons_succ]
          have hLz : OwnL wb w7.heap.size [sR (.slice (some ⟨g1, 0, none⟩) M1.length c1') M1] := ⟨fun r hr => by rw [List.mem_singleton.1 hr]; exact hO1', List.pairwise_singleton _ _⟩
          refine wpAnyL_one (i := 8) (by decide +kernel) (by rfl) (fun K hK => ?_)
          rw [if_pos (by rfl)]
          refine wp_al (.tmp 65) (.tmp 68) 27 9 _ 16 (by rfl) Tryd.underlying27 strInfo rfl (by omega) w7.heap.size _ _ _ (by rfl) hLz A2z M2.length c2z (M2.map .string) (by rfl) (by rw [List.length_map]) (Src.strs hS2z) (by rw [List.length_map]; omega) (by omega) ?_
          intro v8 wc hL8 hb8
          rw [← List.map_append] at hL8
          obtain ⟨A8, c8, hv8, hc8, hS8⟩ := OwnL.strs1 (l := M1 ++ M2) hL8
          rw [List.length_append] at hv8
          subst hv8
          have hsc := hb8.size
          have hX : (fun W' : World => W'.cell? ⟨q, 0, none⟩ = some (.int .i64 (i : Int)) ∧ W'.cell? ⟨q, 1, none⟩ = some (.slice A 18 c) ∧ W'.cell? ⟨q, 2, none⟩ = some (.slice A' n c')) wc := ⟨(hb8.cell (by simp <;> omega)).trans hHeld.1, (hb8.cell (by simp <;> omega)).trans hHeld.2.1, (hb8.cell (by simp <;> omega)).trans hHeld.2.2⟩
          clear hHeld
          have hHeld := hX; clear hX
          refine hK.out _ _ (Or.inr hHeld) ?_
          clear hK K
          try simp only [Act.put, List.setIfInBounds_toArray]
          refine wpAnyL_one (i := 9) (by decide +kernel) (by rfl) (fun K hK => ?_)
          rw [if_pos (by rfl)]
          go_simp
          refine (shown_any A8 c8 (M1.length + M2.length) (M1 ++ M2) wc List.length_append (by omega) mz.out hS8 hshown.out).mono ?_
          rintro e wd ⟨rfl, hbd⟩
          have hX : (fun W' : World => W'.cell? ⟨q, 0, none⟩ = some (.int .i64 (i : Int)) ∧ W'.cell? ⟨q, 1, none⟩ = some (.slice A 18 c) ∧ W'.cell? ⟨q, 2, none⟩ = some (.slice A' n c')) wd := ⟨(hbd.cell (by simp <;> omega)).trans hHeld.1, (hbd.cell (by simp <;> omega)).trans hHeld.2.1, (hbd.cell (by simp <;> omega)).trans hHeld.2.2⟩
          clear hHeld
          have hHeld := hX; clear hX
          refine hK.out _ _ (Or.inr hHeld) ?_
          clear hK K
          try simp only [Act.put, List.setIfInBounds_toArray, List.set_cons_zero, List.set_cons_succ]
          refine wpAnyL_take (i := 10) (f0 := 14) (v := ?_) rfl (by decide +kernel) (by decide +kernel) (by decide +kernel) (by decide +kernel) (by decide +kernel) (fun _ _ _ h => h) (Or.inl ⟨by rfl, ?_⟩) hHeld ?_
          rotate_left
          · intro wS hS; obtain ⟨hS1, hS2, hS3⟩ := hS; go_simp; (try with_reducible rfl)
          simp only [Act.put, List.setIfInBounds_toArray]
          refine wpAnyL_take (i := 11) (f0 := 14) (v := ?_) rfl (by decide +kernel) (by decide +kernel) (by decide +kernel) (by decide +kernel) (by decide +kernel) (fun _ _ _ h => h) (Or.inl ⟨by rfl, ?_⟩) hHeld ?_
          rotate_left
          · intro wS hS; obtain ⟨hS1, hS2, hS3⟩ := hS; go_simp; (try with_reducible rfl)
          simp only [Act.put]
          refine wpAnyL_done (by decide +kernel) ?_ _
          refine NoPanic.normal ?_
          go_wp2
          go_ret
          exact ⟨rfl, bnext ((bnext (bnext hb (below_undrew hba)) hbb).trans (hb8.mono (by have := hb.size; omega))) hbd⟩
end Go.Proofs.YtadmidkpchonhaaDoor
/- A seal that came in, opened. No conditions. -/
namespace Go.Proofs.YtadmidkpchonhaaDoor
open Go Go.RowKit Go.ChangeShapes Go.WideShapes Go.ChangeAt Go.WideMaps Go.WideElems Go.Joins
variable {H : Type} {enc : TypeId × Value → H}
theorem cellsStr : Tryd.prog.cellsOf 9 = 1 := by kernel_rfl
set_option maxRecDepth 100000 in
/-- A field that is a slice of strings. -/
theorem field_strs {W : World} {v : Value} {n : Nat} {y : DataW H × List MemPlace} (hf : DataW.trod enc Tryd.prog W 0 (fun _ => true) true n 27 [v] = some y) :
    ∃ (A : Option Addr) (c : Nat) (l : List ByteArray), v = .slice A l.length c ∧ l.length ≤ 9223372036854775807 ∧ (∀ s ∈ l, s.size ≤ 9223372036854775807) ∧ Strs W W.heap.size A l ∧ l.length ≤ c := by
  rcases open_strings Tryd.underlying27 Tryd.underlying9 (by kernel_rfl) hf with ⟨hcs, _⟩ | ⟨a, len', cap', ss, hcs, _, hl, hm, hz, _, hcell, hws⟩
  · simp only [List.cons.injEq, and_true] at hcs
    subst hcs
    exact ⟨none, 0, [], rfl, by simp, by simp, Strs.nil _ _ _, by simp⟩
  · simp only [List.cons.injEq, and_true] at hcs
    subst hcs
    simp only [if_true] at hz
    unfold maxLen at hm
    have htl : (ss.take len').length = len' := by rw [List.length_take, hz]; omega
    refine ⟨some a, cap', ss.take len', by rw [htl], by rw [htl]; omega, fun s hs => hws s (List.mem_of_mem_take hs), ⟨fun h0 => ?_⟩, by rw [htl]; exact hl⟩
    rw [htl] at h0
    have h00 : a.add 0 = a := by unfold Addr.add; rw [if_pos rfl]
    obtain ⟨e, hb⟩ := addr_of_cell (h00 ▸ hcell 0 (by omega))
    refine ⟨a.block, a.off, by rw [← e], hb, fun j s hj => ?_⟩
    have hjl : j < len' := by
      have := (List.getElem?_eq_some_iff.1 hj).1
      rw [htl] at this; exact this
    have h1 := hcell j (by omega)
    rw [List.getElem?_take, if_pos hjl] at hj
    rw [List.getD_eq_getElem?_getD, hj] at h1
    have e2 : a.add j = ⟨a.block, a.off + j, none⟩ := by
      conv => lhs; rw [e]
      exact add_plain _ _ _
    rw [← e2]
    exact h1
set_option maxRecDepth 100000 in
/-- A seal. -/
theorem open_seal {W : World} {v : Value} {d : DataW H} {p : List MemPlace} {base : Nat} (hv : Value.okWide Tryd.prog W .any base 29 v) (h : DataW.Trod enc Tryd.prog W 0 (fun _ => true) true 29 v d p) :
    ∃ (i : Int) (A : Option Addr) (c : Nat) (l : List ByteArray) (A' : Option Addr) (c' : Nat) (l' : List ByteArray), v = .agg #[.int .i64 i, .slice A l.length c, .slice A' l'.length c'] ∧ (Lit.int .i64 i).wf = true ∧
      l.length ≤ 9223372036854775807 ∧ (∀ s ∈ l, s.size ≤ 9223372036854775807) ∧ Strs W W.heap.size A l ∧ l.length ≤ c ∧
      l'.length ≤ 9223372036854775807 ∧ (∀ s ∈ l', s.size ≤ 9223372036854775807) ∧ Strs W W.heap.size A' l' ∧ l'.length ≤ c' := by
  obtain ⟨v0, v1, v2, y0, y1, y2, n, rfl, rfl, rfl, h0, h1, h2⟩ := open_agg3 Tryd.underlying29 (by kernel_rfl) (by kernel_rfl) hv h
  obtain ⟨i, e0, _, wi⟩ := DataW.trod_int Tryd.underlying3 h0
  simp only [List.cons.injEq, and_true] at e0
  subst e0
  obtain ⟨A, c, l, rfl, a1, a2, a3, a4⟩ := field_strs h1
  obtain ⟨A', c', l', rfl, b1, b2, b3, b4⟩ := field_strs h2
  exact ⟨i, A, c, l, A', c', l', rfl, wi, a1, a2, a3, a4, b1, b2, b3, b4⟩
end Go.Proofs.YtadmidkpchonhaaDoor

