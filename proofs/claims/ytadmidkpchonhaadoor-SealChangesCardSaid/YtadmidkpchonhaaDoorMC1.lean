/- Walks and laws of this seat, several texts in one: SL3, S13, SL5, OwnL2, SL9. No conditions but those that each theorem states. -/
import Derived.Test.YtadmidkpchonhaaDoorMA3
import Derived.Deep.DeepCutAuto
import Derived.Deep.CutRange
import Derived.IntWalk
/- SealSecrets. -/
namespace Go.Proofs.YtadmidkpchonhaaDoor
open Go Go.RowKit Go.Sort
theorem chained_isB {S : ByteArray} (h : Dg.isB S = true) (n : Nat) : ∀ t ∈ Dg.chained S n, t.size ≤ 4194304 := fun t ht => by
  unfold Dg.chained at ht
  obtain ⟨j, _, rfl⟩ := List.mem_map.1 ht
  have := Dg.chainB_le S j
  have := Dg.isB_len h
  omega
theorem pairT_size (n : Nat) : ∀ (L : List ByteArray), L.length ≤ n → (∀ x ∈ L, x.size ≤ 1048576) → ∀ t ∈ Dg.pairT L, t.size ≤ 4194304 := by
  induction n using Nat.strongRecOn with
  | _ n ih =>
  intro L hL hz
  match L with
  | [] => intro t ht; cases ht
  | [a] => intro t ht; cases ht
  | a :: b :: r =>
    simp only [List.length_cons] at hL
    intro t ht
    rcases List.mem_cons.1 ht with rfl | ht
    · exact jB_size _ (by simp) (mem3 (by decide) (hz a (by simp)) (hz b (by simp)))
    · exact ih (n - 2) (by omega) r (by omega) (fun x hx => hz x (List.mem_cons_of_mem _ (List.mem_cons_of_mem _ hx))) t ht
theorem lvF_size (f : Nat) : ∀ (L : List ByteArray), (∀ x ∈ L, x.size = 16) → ∀ t ∈ Dg.lvF f L, t.size ≤ 4194304 := by
  induction f with
  | zero => intro L _ t ht; cases ht
  | succ f ih =>
    intro L hL t ht
    rw [Dg.lvF] at ht
    split at ht
    · cases ht
    · rcases List.mem_append.1 ht with ht | ht
      · exact pairT_size L.length L (Nat.le_refl _) (fun x hx => by rw [hL x hx]; decide) t ht
      · exact ih _ (pairD_16 L.length L (Nat.le_refl _)) t ht
theorem ends_jB_size (s : ByteArray) (i : Nat) : (Dg.jB (Dg.endsOf s i)).size ≤ 4611686018427387904 := by
  rw [Dg.jB, Dg.size_B]
  have := joined_16 (Dg.endsOf s i) (by rw [Dg.endsOf_len]; decide) (fun x hx => by rw [Dg.endsOf_size s i x hx]; decide)
  omega
theorem made_size (s : ByteArray) (hs : s.size ≤ 1048576) (h n : Nat) : ∀ t ∈ Dg.made s h n, t.size ≤ 4611686018427387904 := fun t ht => by
  unfold Dg.made at ht
  rcases List.mem_append.1 ht with ht | ht
  · obtain ⟨i, _, ht⟩ := List.mem_flatMap.1 ht
    unfold Dg.madeKey at ht
    rcases List.mem_append.1 ht with ht | ht
    · obtain ⟨k, _, ht⟩ := List.mem_flatMap.1 ht
      rcases List.mem_cons.1 ht with rfl | ht
      · have := jB_size [s, Dg.decS i, Dg.decS k] (by simp) (mem3 hs (by have := Dg.decS_size i; omega) (by have := Dg.decS_size k; omega))
        exact Nat.le_trans this (by decide)
      · exact Nat.le_trans (chained_isB (by rw [← Dg.ch_zero]; exact Dg.isB_ch _ _ _ _) n t ht) (by decide)
    · rcases List.mem_cons.1 ht with rfl | ht
      · exact ends_jB_size s i
      · rw [List.mem_singleton.1 ht]
        exact Nat.le_trans (jB_size [Dg.sLeaf, Dg.keyB s i] (by simp) (mem2 (by decide) (by rw [Dg.keyB_size]; decide))) (by decide)
  · exact Nat.le_trans (lvF_size _ _ (fun x hx => by
      unfold Dg.leaves at hx
      obtain ⟨y, _, rfl⟩ := List.mem_map.1 hx
      exact listB_size _) t ht) (by decide)
theorem made_len (s : ByteArray) (h n : Nat) (hh : h ≤ 2) (hn : n ≤ 30) : 1 ≤ (Dg.made s h n).length ∧ (Dg.made s h n).length ≤ 100000 := by
  have hp : 2 ^ h ≤ 4 := Nat.pow_le_pow_right (n := 2) (by omega) hh
  have hp1 := Nat.one_le_two_pow (n := h)
  rw [made_eq, List.length_append, madeTo_len]
  have key : ∀ f (L : List ByteArray), L.length ≤ 4 → (Dg.lvF f L).length ≤ 2 * f := by
    intro f
    induction f with
    | zero => intro L _; exact Nat.le_refl _
    | succ f ih =>
      intro L hL
      rw [Dg.lvF]
      split
      · simp
      · have h1 := pairs_len L.length L (Nat.le_refl _)
        have h2 := ih (Dg.pairD L) (by omega)
        rw [List.length_append]
        omega
  have h1 := key (2 ^ h) (lvTo s (2 ^ h)) (by rw [lvTo_len]; exact hp)
  generalize 2 ^ h = P at *
  have h2 : P * (18 * (n + 2) + 2) ≤ 4 * (18 * (30 + 2) + 2) := Nat.mul_le_mul hp (by omega)
  have h3 : 1 * (18 * (0 + 2) + 2) ≤ P * (18 * (n + 2) + 2) := Nat.mul_le_mul hp1 (by omega)
  omega
end Go.Proofs.YtadmidkpchonhaaDoor
/- Checked of the reference: the plain part. -/
namespace Go.Proofs.YtadmidkpchonhaaDoor
open Go Go.RowKit Go.Sort
theorem sigAt (sig : List ByteArray) (k : Nat) : sig.getD k ⟨#[]⟩ = (sig[k]?).getD ⟨#[]⟩ := List.getD_eq_getElem?_getD ..
def chTo (m : ByteArray) (sig : List ByteArray) (k : Nat) : List ByteArray := (List.range k).flatMap fun k => Dg.chained (sig.getD k ⟨#[]⟩) (15 - Dg.dig m k)
def enTo (m : ByteArray) (sig : List ByteArray) (k : Nat) : List ByteArray := (List.range k).map fun k => Dg.chainB (sig.getD k ⟨#[]⟩) (15 - Dg.dig m k)
theorem chTo_succ (m : ByteArray) (sig : List ByteArray) (k : Nat) : chTo m sig (k + 1) = chTo m sig k ++ Dg.chained (sig.getD k ⟨#[]⟩) (15 - Dg.dig m k) := by unfold chTo; rw [List.range_succ, List.flatMap_append]; simp
theorem enTo_succ (m : ByteArray) (sig : List ByteArray) (k : Nat) : enTo m sig (k + 1) = enTo m sig k ++ [Dg.chainB (sig.getD k ⟨#[]⟩) (15 - Dg.dig m k)] := by unfold enTo; rw [List.range_succ, List.map_append]; rfl
theorem enTo_18 (m : ByteArray) (sig : List ByteArray) : enTo m sig 18 = Dg.endsB m sig := rfl
theorem chTo_len (m : ByteArray) (sig : List ByteArray) (k : Nat) : (chTo m sig k).length ≤ 16 * k := by
  induction k with
  | zero => simp [chTo]
  | succ k ih => rw [chTo_succ, List.length_append, chained_len]; omega
theorem enTo_len (m : ByteArray) (sig : List ByteArray) (k : Nat) : (enTo m sig k).length = k := by rw [enTo, List.length_map, List.length_range]
theorem foldT_len (q : List ByteArray) : ∀ (i : Nat) (d : ByteArray), (Dg.foldT i d q).length = q.length := by
  induction q with
  | nil => intro _ _; rfl
  | cons a q ih => intro i d; rw [Dg.foldT, List.length_cons, ih, List.length_cons]
theorem isB_ends (m : ByteArray) (sig : List ByteArray) (h : ∀ s ∈ sig, s.size = 16) : ∀ s ∈ Dg.endsB m sig, s.size ≤ 32 := fun x hx => by
  unfold Dg.endsB at hx
  obtain ⟨k, _, rfl⟩ := List.mem_map.1 hx
  have := Dg.chainB_le (sig.getD k ⟨#[]⟩) (15 - Dg.dig m k)
  have h2 : (sig.getD k ⟨#[]⟩).size ≤ 16 := by
    rw [List.getD_eq_getElem?_getD]
    cases hg : sig[k]? with
    | none => decide
    | some s => exact Nat.le_of_eq (h s (List.mem_of_getElem? hg))
  omega
theorem int_cell {W : World} {B g n c : Nat} {T : TypeId} {xs : List Value} {k : Nat} {u : Value} (h : OwnV W B T (.slice (some ⟨g, 0, none⟩) n c) xs) (hu : xs[k]? = some u) : W.cell? ⟨g, k, none⟩ = some u := by
  have hk := (List.getElem?_eq_some_iff.1 hu).1
  rcases h.2 with ⟨h0, _⟩ | ⟨g', cap, cur, h0, _, hgb, _, _, _, htk⟩
  · injection h0 with h1 _ _; cases h1
  · injection h0 with h1 _ _
    injection h1 with h1
    injection h1 with h1 _ _
    subst h1
    rw [cell_of_row _ _ _ _ _ (0, 0) hgb, ← Array.getElem?_toList]
    have h5 : (cur.toList.take (xs.length * 1))[k]? = xs[k]? := by rw [htk]
    rw [List.getElem?_take, if_pos (by omega)] at h5
    rw [h5, hu]
set_option maxRecDepth 100000 in
set_option maxHeartbeats 4000000 in
theorem checked_any (m : ByteArray) (i : Nat) (A A' : Option Addr) (c c' n' : Nat) (sig path : List ByteArray) (w : World) (hi : i ≤ 4611686018427387904) (hm : m.size ≤ 4611686018427387904) (hl : sig.length = 18) (hz : ∀ s ∈ sig, s.size = 16) (hS : Strs w w.heap.size A sig)
    (hl2 : path.length = n') (hn : n' ≤ 30) (hz2 : ∀ s ∈ path, s.size = 16) (hS2 : Strs w w.heap.size A' path) :
    Calls Tryd.prog 20 #[.string m, .agg #[.int .i64 i, .slice A 18 c, .slice A' n' c']] w fun e w' => (∃ v, e = .returned v ∧ OwnS w' w.heap.size v (Dg.checked m i sig path)) ∧ Below w.heap.size w w' := by
  have hl' := hide hl; have hz' := hide hz; have hl2' := hide hl2; have hz2' := hide hz2
  clear hl hz hl2 hz2
  go_enter Tryd.func20, Tryd.ntmps20
  go_wp2_with fail
  have hW := Below.news (Below.refl w.heap.size w) (.cells #[.int .i64 i, .slice A 18 c, .slice A' n' c'] 29)
  have r0 := heap_alloc_new w (.cells #[.int .i64 i, .slice A 18 c, .slice A' n' c'] 29)
  have hsz0 : w.heap.size < (w.alloc (.cells #[.int .i64 i, .slice A 18 c, .slice A' n' c'] 29)).heap.size := by simp
  replace hS := keepS hS hW
  replace hS2 := keepS hS2 hW
  generalize w.alloc (.cells #[.int .i64 i, .slice A 18 c, .slice A' n' c'] 29) = W0 at *
  refine (rdigs_any m hm W0).mono ?_
  rintro e w1 ⟨⟨vd, rfl, hD⟩, hb1⟩
  have hdl := digI_len m 18
  obtain ⟨gd, cd, rfl⟩ : ∃ g c, vd = .slice (some ⟨g, 0, none⟩) 18 c := by
    rcases hD.2 with ⟨_, h0⟩ | ⟨g, cap, cur, h0, _⟩
    · rw [hdl] at h0; cases h0
    · exact ⟨g, cap, by rw [h0, hdl]⟩
  have hL1 : OwnL w1 W0.heap.size [sR (.slice none 0 0) [], sR (.slice none 0 0) [], (.slice (some ⟨gd, 0, none⟩) 18 cd, 3, digI m 18)] := ((OwnL.mk (rs := [(.slice (some ⟨gd, 0, none⟩) 18 cd, 3, digI m 18)]) (fun r hr => by rw [List.mem_singleton.1 hr]; exact hD) (List.pairwise_singleton _ _)).emptyS).emptyS
  clear hD
  go_wp2
  go_loopw [6, 7, 8] (fun ov ev kv wr => ∃ k : Nat, k ≤ 18 ∧ kv = .int .i64 k ∧ Below W0.heap.size W0 wr ∧ OwnL wr W0.heap.size [sR ov (chTo m sig k), sR ev (enTo m sig k), (.slice (some ⟨gd, 0, none⟩) 18 cd, 3, digI m 18)]) (fun _ _ kv _ => 18 - (intOf kv).toNat)
  case atStart => exact ⟨0, by omega, rfl, hb1, hL1⟩
  case round =>
    obtain ⟨k, hk, rfl, hbr, hLr⟩ := hrel
    have rr := row_next r0 hbr
    obtain ⟨f1, f2, f3⟩ := cells3 rr
    have hrl : w.heap.size < wr.heap.size := (Array.getElem?_eq_some_iff.1 rr).1
    by_cases hlt : k < 18
    · have hkl : k < sig.length := by rw [hl'.out]; exact hlt
      obtain ⟨b, off, rfl, hbl, hcell⟩ := (keepS hS hbr).get hkl
      have hx16 := hz'.out sig[k] (List.getElem_mem hkl)
      have hgx := hide (getD_eq sig k hkl)
      have hd15 := Dg.dig_le m k
      have hdi := hide (digI_get m 18 k hlt)
      have hdc := int_cell hLr.rot3.head hdi.out
      have hgdl : gd < wr.heap.size := block_lt_of_cell hdc
      have hcs := hide (chTo_succ m sig k)
      have hes := hide (enTo_succ m sig k)
      have hcl := chTo_len m sig k
      have hel := enTo_len m sig k
      rw [hgx.out] at hcs hes
      generalize Dg.dig m k = d at *
      generalize sig[k] = x at *
      have hxl := chained_len x (15 - d)
      have hxg := hide (chained_get x (15 - d) (15 - d) (Nat.le_refl _))
      generalize Dg.chainB x (15 - d) = C0 at *
      generalize chTo m sig k = Q at *
      generalize enTo m sig k = E at *
      obtain ⟨D, hD⟩ : ∃ D : Nat, 15 - d = D := ⟨_, rfl⟩
      have hD15 : D ≤ 15 := by omega
      have e15 : (15 : Int) - (d : Int) = (D : Int) := by omega
      rw [hD] at hxl hxg hcs
      clear hD
      have hD1 : (D : Int) < ((D + 1 : Nat) : Int) := by omega
      have hk0 : (0 : Int) ≤ (k : Int) := by omega
      have hk1 : (k : Int) < 18 := by omega
      go_wp2
      have hmx : Tryd.prog.follows .mixedOrders = true := by kernel_rfl
      have hHeld : (fun W' : World => W'.cell? ⟨w.heap.size, 1, none⟩ = some (.slice (some ⟨b, off, none⟩) 18 c) ∧ W'.cell? ⟨b, off + k, none⟩ = some (.string x) ∧ W'.cell? ⟨gd, k, none⟩ = some (.int .i64 (d : Int))) wr.drew := ⟨f2, hcell, hdc⟩
      refine wp_region_noPanic ?_
      refine wp_region_L (fun W' : World => W'.cell? ⟨w.heap.size, 1, none⟩ = some (.slice (some ⟨b, off, none⟩) 18 c) ∧ W'.cell? ⟨b, off + k, none⟩ = some (.string x) ∧ W'.cell? ⟨gd, k, none⟩ = some (.int .i64 (d : Int))) 12 hmx ?_
      refine wpAnyL_take (i := 0) (f0 := 14) (v := ?_) rfl (by decide +kernel) (by decide +kernel) (by decide +kernel) (by decide +kernel) (by decide +kernel) (fun _ _ _ h => h) (Or.inl ⟨by rfl, ?_⟩) hHeld ?_
      rotate_left
      · intro wS hS; obtain ⟨hS1, hS2, hS3⟩ := hS; go_simp; (try with_reducible rfl)
      simp only [Act.put, List.setIfInBounds_toArray]
      refine wpAnyL_take (i := 1) (f0 := 14) (v := ?_) rfl (by decide +kernel) (by decide +kernel) (by decide +kernel) (by decide +kernel) (by decide +kernel) (fun _ _ _ h => h) (Or.inl ⟨by rfl, ?_⟩) hHeld ?_
      rotate_left
      · intro wS hS; obtain ⟨hS1, hS2, hS3⟩ := hS; go_simp; (try with_reducible rfl)
      simp only [Act.put]
      refine wpAnyL_take (i := 2) (f0 := 14) (v := ?_) rfl (by decide +kernel) (by decide +kernel) (by decide +kernel) (by decide +kernel) (by decide +kernel) (fun _ _ _ h => h) (Or.inl ⟨by rfl, ?_⟩) hHeld ?_
      rotate_left
      · intro wS hS; obtain ⟨hS1, hS2, hS3⟩ := hS; go_simp; (try with_reducible rfl)
      simp only [Act.put]
      refine wpAnyL_take (i := 3) (f0 := 14) (v := ?_) rfl (by decide +kernel) (by decide +kernel) (by decide +kernel) (by decide +kernel) (by decide +kernel) (fun _ _ _ h => h) (Or.inl ⟨by rfl, ?_⟩) hHeld ?_
      rotate_left
      · intro wS hS; obtain ⟨hS1, hS2, hS3⟩ := hS; go_simp; (try with_reducible rfl)
      simp only [Act.put]
      refine wpAnyL_take (i := 4) (f0 := 14) (v := ?_) rfl (by decide +kernel) (by decide +kernel) (by decide +kernel) (by decide +kernel) (by decide +kernel) (fun _ _ _ h => h) (Or.inl ⟨by rfl, ?_⟩) hHeld ?_
      rotate_left
      · intro wS hS; obtain ⟨hS1, hS2, hS3⟩ := hS; go_simp; (try with_reducible rfl)
      simp only [Act.put]
      refine wpAnyL_take (i := 5) (f0 := 14) (v := ?_) rfl (by decide +kernel) (by decide +kernel) (by decide +kernel) (by decide +kernel) (by decide +kernel) (fun _ _ _ h => h) (Or.inl ⟨by rfl, ?_⟩) hHeld ?_
      rotate_left
      · intro wS hS; obtain ⟨hS1, hS2, hS3⟩ := hS; go_simp; (try with_reducible rfl)
      simp only [Act.put]
      refine wpAnyL_take (i := 6) (f0 := 14) (v := ?_) rfl (by decide +kernel) (by decide +kernel) (by decide +kernel) (by decide +kernel) (by decide +kernel) (fun _ _ _ h => h) (Or.inl ⟨by rfl, ?_⟩) hHeld ?_
      rotate_left
      · intro wS hS; obtain ⟨hS1, hS2, hS3⟩ := hS; go_simp; (try with_reducible rfl)
      simp only [Act.put]
      refine wpAnyL_take (i := 7) (f0 := 14) (v := ?_) rfl (by decide +kernel) (by decide +kernel) (by decide +kernel) (by decide +kernel) (by decide +kernel) (fun _ _ _ h => h) (Or.inl ⟨by rfl, ?_⟩) hHeld ?_
      rotate_left
      · intro wS hS; obtain ⟨hS1, hS2, hS3⟩ := hS; go_simp; (try with_reducible rfl)
      simp only [Act.put]
      refine wpAnyL_take (i := 8) (f0 := 14) (v := ?_) rfl (by decide +kernel) (by decide +kernel) (by decide +kernel) (by decide +kernel) (by decide +kernel) (fun _ _ _ h => h) (Or.inl ⟨by rfl, ?_⟩) hHeld ?_
      rotate_left
      · intro wS hS; obtain ⟨hS1, hS2, hS3⟩ := hS; go_simp; (try with_reducible rfl)
      simp only [Act.put]
      refine wpAnyL_take (i := 9) (f0 := 14) (v := ?_) rfl (by decide +kernel) (by decide +kernel) (by decide +kernel) (by decide +kernel) (by decide +kernel) (fun _ _ _ h => h) (Or.inl ⟨by rfl, ?_⟩) hHeld ?_
      rotate_left
      · intro wS hS; obtain ⟨hS1, hS2, hS3⟩ := hS; go_simp; (try with_reducible rfl)
      simp only [Act.put]
      refine wpAnyL_one (i := 10) (by decide +kernel) (by rfl) (fun K hK => ?_)
      rw [if_pos (by rfl)]
      go_simp
      rw [IntWalk.i64_in (D : Int) (by omega)]
      refine (rchained_any x D (by omega) (by omega) _).mono ?_
      rintro e w1 ⟨⟨g, cap, rfl, hgc, hOc⟩, hb1⟩
      clear hHeld
      have hHeld : (fun W' : World => W'.cell? ⟨w.heap.size, 1, none⟩ = some (.slice (some ⟨b, off, none⟩) 18 c) ∧ W'.cell? ⟨b, off + k, none⟩ = some (.string x) ∧ W'.cell? ⟨gd, k, none⟩ = some (.int .i64 (d : Int))) w1 := ⟨(hb1.cell (by simp <;> omega)).trans f2, (hb1.cell (by simp <;> omega)).trans hcell, (hb1.cell (by simp <;> omega)).trans hdc⟩
      refine hK.out _ _ (Or.inr hHeld) ?_
      clear hK K
      try simp only [Act.put, List.setIfInBounds_toArray, List.set_cons_zero, List.set_cons_succ]
      refine wpAnyL_take (i := 11) (f0 := 14) (v := ?_) rfl (by decide +kernel) (by decide +kernel) (by decide +kernel) (by decide +kernel) (by decide +kernel) (fun _ _ _ h => h) (Or.inl ⟨by rfl, ?_⟩) hHeld ?_
      rotate_left
      · intro wS hS; obtain ⟨hS1, hS2, hS3⟩ := hS; go_simp; (try with_reducible rfl)
      simp only [Act.put, List.setIfInBounds_toArray]
      refine wpAnyL_done (by decide +kernel) ?_ _
      refine NoPanic.normal ?_
      clear hHeld hmx
      have hb1' : Below W0.heap.size W0 w1 := hbr.trans ((below_undrew hb1).mono hbr.size)
      have hL1 := ((hLr.below (Below.refl wr.heap.size wr).drew).made (by exact hbr.size) hb1 hOc).swap
      have hS1 := OwnS.strs' hOc
      have hs1 := hb1'.size
      have hd2 : w1.cell? ⟨gd, k, none⟩ = some (.int .i64 (d : Int)) := (hb1.cell (by simp <;> omega)).trans hdc
      have hgd0 := ((hLr.rot3.head).lt (g := gd) rfl)
      go_wp2_with (first
        | (at_builtin; refine step_la rfl (.tmp 40) (.tmp 41) rfl W0.heap.size _ _ Q (Dg.chained x D) _ rfl hL1 _ (D + 1) cap rfl hxl hS1 (by omega) hs1 ?_; intro v4 w4 hL4 hb4; have hb4' : Below W0.heap.size W0 w4 := hb1'.trans hb4; have hs4 := hb4'.size; have hcC : w4.cell? ⟨g, D, none⟩ = some (.string C0) := (hL4.swap.headS).getc _ _ hxg.out; have hL4' := hL4.rot3; have hdd := int_cell (hL4.tail.rot3.head) hdi.out)
        | (at_builtin; refine step_ll rfl (.tmp 43) (.tmp 52) rfl W0.heap.size _ E [C0] _ _ rfl rfl hL4' 1 1 rfl rfl (by omega) hs4 ?_; intro v5 w5 hL5 hb5))
      go_roundw
      case rel => exact ⟨k + 1, by omega, by go_num, hb4'.trans hb5, by rw [hcs.out, hes.out]; exact hL5.rot3'.rot3'.tail.swap⟩
      case measure => simp [intOf]; omega
    · obtain rfl : k = 18 := by omega
      have hcl := chTo_len m sig 18
      have hel := enTo_len m sig 18
      have hz16 := hide (isB_ends m sig hz'.out)
      have hj := endsB_joined m sig hz'.out
      have hKz : (Dg.jB (Dg.endsB m sig)).size ≤ 1099511627776 := by rw [Dg.jB, Dg.size_B]; exact hj
      rw [← enTo_18] at hj
      have hck : Hid (Dg.checked m i sig path = chTo m sig 18 ++ [Dg.jB (Dg.endsB m sig), Dg.jB [Dg.sLeaf, Dg.listB (Dg.endsB m sig)]] ++ Dg.foldT i (Dg.leafB (Dg.listB (Dg.endsB m sig))) path) := rfl
      have hKT : Hid (Dg.B (Dg.joinedL (enTo m sig 18)) = Dg.jB (Dg.endsB m sig)) := rfl
      have hKS : Hid (Dg.sumB (Dg.jB (Dg.endsB m sig)) = Dg.listB (Dg.endsB m sig)) := Dg.sumB_jB _
      have hk16 : (Dg.listB (Dg.endsB m sig)).size = 16 := listB_size _
      have hLT : Hid (Dg.B (Dg.joinedL [⟨#[108, 101, 97, 102]⟩, Dg.listB (Dg.endsB m sig)]) = Dg.jB [Dg.sLeaf, Dg.listB (Dg.endsB m sig)]) := rfl
      have hLz := jB_size [Dg.sLeaf, Dg.listB (Dg.endsB m sig)] (by simp) (mem2 (by decide) (by omega))
      have hLS : Hid (Dg.sumB (Dg.jB [Dg.sLeaf, Dg.listB (Dg.endsB m sig)]) = Dg.leafB (Dg.listB (Dg.endsB m sig))) := Dg.leaf_eq _
      have hl16 : (Dg.leafB (Dg.listB (Dg.endsB m sig))).size = 16 := listB_size _
      rw [enTo_18] at *
      generalize Dg.jB [Dg.sLeaf, Dg.listB (Dg.endsB m sig)] = LT at *
      generalize Dg.leafB (Dg.listB (Dg.endsB m sig)) = LB at *
      generalize Dg.listB (Dg.endsB m sig) = KB at *
      generalize Dg.jB (Dg.endsB m sig) = KT at *
      generalize Dg.endsB m sig = E at *
      generalize chTo m sig 18 = Q at *
      have hm2 := hide (mem2 (a := ⟨#[108, 101, 97, 102]⟩) (b := KB) (n := 1048576) (by decide) (by omega))
      obtain ⟨Ae, ce, rfl, hce, hSe⟩ := hLr.swap.strs1
      rw [hel] at hLr
      have hel' := hide hel; clear hel
      go_wp2_with fail
      rw [hel'.out]
      refine (joined_of Ae ce 18 E hel'.out KT hKT.out _ (by rw [hel'.out]; decide) hj (mem_le hz16.out (by decide)) hSe).mono ?_
      rintro e w1 ⟨rfl, hb1⟩
      have hb1' := bnext hbr hb1
      have hL1 := hLr.below hb1
      go_wp2_with fail
      refine (rsum_of KT KB hKS.out (by omega) _).mono ?_
      rintro e w2 ⟨rfl, rfl⟩
      go_wp2_with fail
      refine (joined_new [⟨#[108, 101, 97, 102]⟩, KB] _ _ 2 _ rfl (len2 _ _) hm2.out LT hLT.out _ rfl _ rfl).mono ?_
      rintro e w2 ⟨rfl, hb2⟩
      have hb2' := bnext hb1' hb2
      have hL2 := hL1.below hb2
      have hs2 := hb2'.size
      go_wp2_with (at_builtin; refine step_ll rfl (.tmp 60) (.tmp 63) rfl W0.heap.size _ Q [KT, LT] _ _ rfl rfl hL2 2 2 rfl rfl (by omega) hs2 ?_; intro v3 w3 hL3 hb3)
      have hb3' := hb2'.trans hb3
      have hs3 := hb3'.size
      go_wp2_with fail
      refine (rsum_of LT LB hLS.out (by omega) _).mono ?_
      rintro e w4 ⟨rfl, rfl⟩
      obtain ⟨f1, f2, f3⟩ := cells3 (row_next r0 hb3')
      have hL3' : OwnL w3 W0.heap.size [sR v3 (Q ++ [KT, LT])] := ⟨fun r hr => by rw [List.mem_singleton.1 hr]; exact hL3.headS, List.pairwise_singleton _ _⟩
      clear hL3 hL2 hL1 hLr
      have hQl : (Q ++ [KT, LT]).length ≤ 1000 := by rw [List.length_append]; simp only [List.length_cons, List.length_nil]; omega
      generalize Q ++ [KT, LT] = O at *
      go_wp2
      obtain ⟨wo, rfl⟩ : ∃ wo : World, wo = w3 := ⟨_, rfl⟩
      go_loopw [6, 12, 13, 14] (fun ov tv iv kv wr => ∃ (k : Nat) (T : ByteArray) (j : Nat), k ≤ n' ∧ kv = .int .i64 k ∧ Hid (T = Dg.fu i LB (path.take k)) ∧ T.size = 16 ∧ tv = .string T ∧ Hid (j = i / 2 ^ k) ∧ j ≤ 4611686018427387904 ∧ iv = .int .i64 j ∧ Below W0.heap.size W0 wr ∧ OwnL wr W0.heap.size [sR ov (O ++ Dg.foldT i LB (path.take k))]) (fun _ _ _ kv _ => n' - (intOf kv).toNat)
      case atStart => exact ⟨0, LB, i, by omega, rfl, by unfold Hid; rw [List.take_zero]; rfl, hl16, rfl, by unfold Hid; simp, hi, rfl, hb3', by rw [List.take_zero]; show OwnL _ _ [sR _ (O ++ [])]; rw [List.append_nil]; exact hL3'⟩
      case round =>
        obtain ⟨k, T, j, hk, rfl, hT, hTz, rfl, hj, hjl, rfl, hbq, hLq⟩ := hrel
        obtain ⟨f1, f2, f3⟩ := cells3 (row_next r0 hbq)
        by_cases hlt : k < n'
        · have hkl : k < path.length := by rw [hl2'.out]; exact hlt
          obtain ⟨b, off, rfl, hbl, hcell⟩ := (keepS hS2 hbq).get hkl
          have hx16 := hz2'.out path[k] (List.getElem_mem hkl)
          have htk := hide (List.take_succ_eq_append_getElem hkl)
          have htl : (path.take k).length = k := by rw [List.length_take]; omega
          have hfl := foldT_len (path.take k) i LB
          rw [htl] at hfl
          generalize path[k] = x at *
          have hfs := hide (Dg.foldT_snoc (path.take k) x i LB)
          have hus := hide (Dg.fu_snoc (path.take k) x i LB)
          rw [htl, ← hj.out, ← hT.out] at hfs hus
          rw [← htk.out] at hfs hus
          have hjs : Hid (j / 2 = i / 2 ^ (k + 1)) := by unfold Hid; rw [hj.out, Nat.pow_succ, Nat.div_div_eq_div_mul]
          generalize Dg.foldT i LB (path.take k) = FT at *
          have hn1 : Hid (Dg.sumB (Dg.jB [Dg.sNode, T, x]) = Dg.nodeB T x) := rfl
          have hn2 : Hid (Dg.sumB (Dg.jB [Dg.sNode, x, T]) = Dg.nodeB x T) := rfl
          have hn3 : (Dg.nodeB T x).size = 16 := listB_size _
          have hn4 : (Dg.nodeB x T).size = 16 := listB_size _
          have hz1 := jB_size [Dg.sNode, T, x] (by simp) (mem3 (by decide) (by omega) (by omega))
          have hz2 := jB_size [Dg.sNode, x, T] (by simp) (mem3 (by decide) (by omega) (by omega))
          generalize hX1 : Dg.jB [Dg.sNode, T, x] = X1 at *
          generalize hX2 : Dg.jB [Dg.sNode, x, T] = X2 at *
          generalize Dg.nodeB T x = N1 at *
          generalize Dg.nodeB x T = N2 at *
          have HX1 := hide hX1; have HX2 := hide hX2; clear hX1 hX2
          have hlen : (O ++ FT).length + 1 ≤ 1099511627776 := by rw [List.length_append]; omega
          have hk0 : (k : Int) < (n' : Int) := by omega
          go_wp2_with fail
          refine (rnode3_any T x (by omega) (by omega) X1 HX1.out _).mono ?_
          rintro e w5 ⟨rfl, hb5⟩
          have hb5' := bnext hbq hb5
          have hL5 := hLq.below hb5
          have hc5 := (hb5.cell (p := ⟨b, off + k, none⟩) hbl).trans hcell
          obtain ⟨f1, f2, f3⟩ := cells3 (row_next r0 hb5')
          have hs5 := hb5'.size
          by_cases hodd : j % 2 = 1
          · rw [if_pos hodd] at hfs hus
            have ho1 : ((j : Int) % 2 == 1) = true := by rw [beq_iff_eq]; omega
            go_wp2_with fail
            refine (rnode3_any x T (by omega) (by omega) X2 HX2.out _).mono ?_
            rintro e w6 ⟨rfl, hb6⟩
            have hb6' := bnext hb5' hb6
            have hL6 := hL5.below hb6
            have hs6 := hb6'.size
            go_wp2_with (at_builtin; refine step_ll rfl (.tmp 93) (.tmp 95) rfl W0.heap.size _ (O ++ FT) [X2] _ _ rfl rfl hL6 1 1 rfl rfl hlen hs6 ?_; intro v7 w7 hL7 hb7)
            refine (rsum_of X2 N2 hn2.out (by omega) _).mono ?_
            rintro e w8 ⟨rfl, rfl⟩
            go_wp2
            go_roundw
            case rel => exact ⟨k + 1, N2, j / 2, by omega, by go_num, hus.out.symm, hn4, rfl, hjs, by omega, by go_num, hb6'.trans hb7, by rw [hfs.out, ← List.append_assoc]; exact hL7⟩
            case measure => simp [intOf]; omega
          · rw [if_neg hodd] at hfs hus
            have ho1 : ((j : Int) % 2 == 1) = false := by rw [beq_eq_false_iff_ne]; omega
            go_wp2_with (at_builtin; refine step_ll rfl (.tmp 93) (.tmp 95) rfl W0.heap.size _ (O ++ FT) [X1] _ _ rfl rfl hL5 1 1 rfl rfl hlen hs5 ?_; intro v7 w7 hL7 hb7)
            refine (rsum_of X1 N1 hn1.out (by omega) _).mono ?_
            rintro e w8 ⟨rfl, rfl⟩
            go_wp2
            go_roundw
            case rel => exact ⟨k + 1, N1, j / 2, by omega, by go_num, hus.out.symm, hn3, rfl, hjs, by omega, by go_num, hb5'.trans hb7, by rw [hfs.out, ← List.append_assoc]; exact hL7⟩
            case measure => simp [intOf]; omega
        · obtain rfl : n' = k := by omega
          have hO := hLq.headS
          rw [← hl2'.out, List.take_length, ← hck.out] at hO
          go_wp2
          go_ret
          exact ⟨⟨_, rfl, hO.base hW.size⟩, hW.trans (hbq.mono hW.size)⟩
end Go.Proofs.YtadmidkpchonhaaDoor
/- Sizes of what is digested when a seal is verified. -/
namespace Go.Proofs.YtadmidkpchonhaaDoor
open Go Go.RowKit Go.Sort
theorem chained_16 {S : ByteArray} (h : S.size ≤ 16) (n : Nat) : ∀ t ∈ Dg.chained S n, t.size ≤ 4194304 := fun t ht => by
  unfold Dg.chained at ht
  obtain ⟨j, _, rfl⟩ := List.mem_map.1 ht
  have := Dg.chainB_le S j
  omega
theorem fu_16 (q : List ByteArray) : ∀ (i : Nat) (d : ByteArray), d.size = 16 → (Dg.fu i d q).size = 16 := by
  induction q with
  | nil => intro i d h; exact h
  | cons a q ih =>
    intro i d _
    rw [Dg.fu]
    refine ih _ _ ?_
    split <;> exact listB_size _
theorem foldT_size (q : List ByteArray) : ∀ (i : Nat) (d : ByteArray), d.size = 16 → (∀ s ∈ q, s.size = 16) → ∀ t ∈ Dg.foldT i d q, t.size ≤ 4194304 := by
  induction q with
  | nil => intro _ _ _ _ t ht; cases ht
  | cons a q ih =>
    intro i d hd hq t ht
    have ha := hq a (by simp)
    rw [Dg.foldT] at ht
    rcases List.mem_cons.1 ht with rfl | ht
    · split
      · exact jB_size _ (by simp) (mem3 (by decide) (by omega) (by omega))
      · exact jB_size _ (by simp) (mem3 (by decide) (by omega) (by omega))
    · exact ih _ _ (by split <;> exact listB_size _) (fun s hs => hq s (List.mem_cons_of_mem _ hs)) t ht
theorem checked_size (m : ByteArray) (i : Nat) (sig path : List ByteArray) (hs : ∀ s ∈ sig, s.size = 16) (hp : ∀ s ∈ path, s.size = 16) : ∀ t ∈ Dg.checked m i sig path, t.size ≤ 4611686018427387904 := fun t ht => by
  unfold Dg.checked at ht
  rcases List.mem_append.1 ht with ht | ht
  · rcases List.mem_append.1 ht with ht | ht
    · obtain ⟨k, _, ht⟩ := List.mem_flatMap.1 ht
      refine Nat.le_trans (chained_16 ?_ _ t ht) (by decide)
      rw [List.getD_eq_getElem?_getD]
      cases hg : sig[k]? with
      | none => decide
      | some s => exact Nat.le_of_eq (hs s (List.mem_of_getElem? hg))
    · rcases List.mem_cons.1 ht with rfl | ht
      · rw [Dg.jB, Dg.size_B]
        have := endsB_joined m sig hs
        omega
      · rw [List.mem_singleton.1 ht]
        exact Nat.le_trans (jB_size [Dg.sLeaf, _] (by simp) (mem2 (by decide) (by rw [listB_size]; decide))) (by decide)
  · exact Nat.le_trans (foldT_size path i _ (listB_size _) hp t ht) (by decide)
theorem checked_len (m : ByteArray) (i : Nat) (sig path : List ByteArray) : 1 ≤ (Dg.checked m i sig path).length ∧ (Dg.checked m i sig path).length ≤ 1000 + path.length := by
  have h1 := chTo_len m sig 18
  unfold Dg.checked
  rw [List.length_append, List.length_append, foldT_len]
  unfold chTo at h1
  simp only [List.length_cons, List.length_nil]
  omega
end Go.Proofs.YtadmidkpchonhaaDoor
/- Rows of the call's own: literals, a struct's block as a row, stores into a row. No conditions. -/
namespace Go.Proofs.YtadmidkpchonhaaDoor
open Go Go.RowKit Go.Sort
section
variable {P : Program} {ops : Array Oper} {Q : Exit → Act → World → Prop} {md : Region.Mode} {S : World → Prop} {k : Nat}
theorem wpAnyL_two {i j : Nat} {oi oj : Oper} {fuel : Nat} {listed : Array Bool} {a : Act} {w : World} (hr : Region.ready md ops listed = [i, j]) (hoi : ops[i]? = some oi) (hoj : ops[j]? = some oj)
    (h1 : ∀ K' : Act → World → Prop, Hid (∀ a w, SL S k (listed.setIfInBounds i true) w → wpAnyL P md ops Q S k fuel (listed.setIfInBounds i true) a w → K' a w) → if Region.wanted oi (yielded ops a.tmps) = true then Oper.wp P oi a w K' Q else K' (a.put oi.dst undef) w)
    (h2 : ∀ K' : Act → World → Prop, Hid (∀ a w, SL S k (listed.setIfInBounds j true) w → wpAnyL P md ops Q S k fuel (listed.setIfInBounds j true) a w → K' a w) → if Region.wanted oj (yielded ops a.tmps) = true then Oper.wp P oj a w K' Q else K' (a.put oj.dst undef) w) : wpAnyL P md ops Q S k (fuel + 1) listed a w :=
  ⟨fun h0 => absurd (hr.symm.trans h0) (by simp), fun x hx => by
    rw [hr] at hx
    rcases List.mem_cons.1 hx with rfl | hx
    · exact wpOp_step hoi (fun K' hK => h1 K' (fun a w hS hW => hK a w ⟨hS, hW⟩))
    · obtain rfl := List.mem_singleton.1 hx
      exact wpOp_step hoj (fun K' hK => h2 K' (fun a w hS hW => hK a w ⟨hS, hW⟩))⟩
theorem wpAnyL_three {i j l : Nat} {oi oj ol : Oper} {fuel : Nat} {listed : Array Bool} {a : Act} {w : World} (hr : Region.ready md ops listed = [i, j, l]) (hoi : ops[i]? = some oi) (hoj : ops[j]? = some oj) (hol : ops[l]? = some ol)
    (h1 : ∀ K' : Act → World → Prop, Hid (∀ a w, SL S k (listed.setIfInBounds i true) w → wpAnyL P md ops Q S k fuel (listed.setIfInBounds i true) a w → K' a w) → if Region.wanted oi (yielded ops a.tmps) = true then Oper.wp P oi a w K' Q else K' (a.put oi.dst undef) w)
    (h2 : ∀ K' : Act → World → Prop, Hid (∀ a w, SL S k (listed.setIfInBounds j true) w → wpAnyL P md ops Q S k fuel (listed.setIfInBounds j true) a w → K' a w) → if Region.wanted oj (yielded ops a.tmps) = true then Oper.wp P oj a w K' Q else K' (a.put oj.dst undef) w)
    (h3 : ∀ K' : Act → World → Prop, Hid (∀ a w, SL S k (listed.setIfInBounds l true) w → wpAnyL P md ops Q S k fuel (listed.setIfInBounds l true) a w → K' a w) → if Region.wanted ol (yielded ops a.tmps) = true then Oper.wp P ol a w K' Q else K' (a.put ol.dst undef) w) : wpAnyL P md ops Q S k (fuel + 1) listed a w :=
  ⟨fun h0 => absurd (hr.symm.trans h0) (by simp), fun x hx => by
    rw [hr] at hx
    rcases List.mem_cons.1 hx with rfl | hx
    · exact wpOp_step hoi (fun K' hK => h1 K' (fun a w hS hW => hK a w ⟨hS, hW⟩))
    · rcases List.mem_cons.1 hx with rfl | hx
      · exact wpOp_step hoj (fun K' hK => h2 K' (fun a w hS hW => hK a w ⟨hS, hW⟩))
      · obtain rfl := List.mem_singleton.1 hx
        exact wpOp_step hol (fun K' hK => h3 K' (fun a w hS hW => hK a w ⟨hS, hW⟩))⟩
end
/-- A literal's block, laid now, as a row. -/
theorem OwnL.lit {W : World} {B : Nat} {rs : List (Value × TypeId × List Value)} (h : OwnL W B rs) (hB : B ≤ W.heap.size) (cs : Array Value) (T : TypeId) (n : Nat) (hn : cs.size = n) (hm : n ≤ maxLen) : OwnL (W.alloc (.cells cs T)) B ((.slice (some ⟨W.heap.size, 0, none⟩) n n, T, cs.toList) :: rs) := by
  subst hn
  refine h.made hB ((Below.refl _ _).alloc (Nat.le_refl _) _) ?_
  exact ⟨(Nat.mul_one _).symm, Or.inr ⟨W.heap.size, cs.size, cs, by rw [Array.length_toList], Nat.le_refl _, heap_alloc_new W _, by rw [Array.length_toList]; exact Nat.le_refl _, hm, (Nat.mul_one _).symm, by rw [Nat.mul_one, List.take_length]⟩⟩
theorem OwnV.row {W : World} {B g n : Nat} {T : TypeId} {xs : List Value} (h : OwnV W B T (.slice (some ⟨g, 0, none⟩) n n) xs) : W.heap[g]? = some (.cells xs.toArray T (0, 0)) := by
  rcases h.2 with ⟨h0, _⟩ | ⟨g', cap, cur, h0, _, hgb, _, _, hcz, htk⟩
  · injection h0 with h1 _ _; cases h1
  · injection h0 with h1 h2 h3
    injection h1 with h1
    injection h1 with h1 _ _
    subst h1
    have h4 : cur.toList = xs := by
      rw [← htk, List.take_of_length_le]
      rw [Array.length_toList, hcz, ← h3, h2]
      exact Nat.le_refl _
    rw [hgb, ← h4]
theorem OwnV.set {w : World} {B g n cap : Nat} {T : TypeId} {xs : List Value} (h : OwnV w B T (.slice (some ⟨g, 0, none⟩) n cap) xs) (j : Nat) (u : Value) : OwnV (w.setCell ⟨g, j, none⟩ u) B T (.slice (some ⟨g, 0, none⟩) n cap) (xs.set j u) := by
  have hn : xs.length = n := by
    obtain ⟨_, _, h2⟩ := OwnV.form h
    injection h2 with _ h3 _
    exact h3.symm
  unfold OwnV at *
  rw [List.length_set]
  rw [hn] at h ⊢
  exact (h.stored j _).1
/-- A store into the first row. -/
theorem OwnL.set {W : World} {B g n c : Nat} {T : TypeId} {xs : List Value} {rs : List (Value × TypeId × List Value)} (h : OwnL W B ((.slice (some ⟨g, 0, none⟩) n c, T, xs) :: rs)) (j : Nat) (u : Value) : OwnL (W.setCell ⟨g, j, none⟩ u) B ((.slice (some ⟨g, 0, none⟩) n c, T, xs.set j u) :: rs) := by
  obtain ⟨h1, h2⟩ := List.pairwise_cons.1 h.apart
  refine ⟨fun r hr => ?_, List.pairwise_cons.2 ⟨fun b hb => h1 b hb, h2⟩⟩
  rcases List.mem_cons.1 hr with rfl | hr
  · exact h.head.set j u
  · exact ownsRow_setCell_other (h.own r (List.mem_cons_of_mem _ hr)) (h1 r hr g rfl) u
theorem OwnL.setS {W : World} {B g n c : Nat} {l : List ByteArray} {rs : List (Value × TypeId × List Value)} (h : OwnL W B (sR (.slice (some ⟨g, 0, none⟩) n c) l :: rs)) (j : Nat) (s : ByteArray) : OwnL (W.setCell ⟨g, j, none⟩ (.string s)) B (sR (.slice (some ⟨g, 0, none⟩) n c) (l.set j s) :: rs) := by
  have := OwnL.set h j (.string s)
  unfold sR
  rw [List.map_set]
  exact this
end Go.Proofs.YtadmidkpchonhaaDoor
/- SealChanges (under way). -/
namespace Go.Proofs.YtadmidkpchonhaaDoor
open Go Go.RowKit Go.Sort
theorem OwnL.drew2 {W : World} {B : Nat} {rs : List (Value × TypeId × List Value)} (h : OwnL W B rs) : OwnL W.drew B rs := ⟨fun r hr => h.own r hr, h.apart⟩
theorem changes_plain (s m : ByteArray) (h : Nat) (hh : h ≤ 2) (i j : Nat) (SG2 PT2 SG PT : List ByteArray) (e1 : Dg.sigB s i m = SG) (e2 : Dg.sealPath s h i = PT) (hs : s.size ≤ 300) (hi : i < 2 ^ h) (hj : j < 2 ^ h) (hji : j = i ∨ SG2 = SG) (hsm : sameS (j : Int) (i : Int) SG2 SG PT2 PT = false)
    (hv : verifyB (Dg.publicB s h) m j SG2 PT2 = true) : Dg.Shown (Dg.made s h 15 ++ Dg.checked m j SG2 PT2) := by
  obtain ⟨h1, _, h3, h4, _, h6, h7⟩ := (verifyB_iff _ _ _ _ _).1 hv
  rw [Int.toNat_natCast] at h7
  rcases Dg.seal_sound s h m j SG2 PT2 hh h1 (isB_16 h3) (isB_16 h4) (by omega) h7 with ⟨h8, h9, h10⟩ | h8
  · by_cases hij : j = i
    · subst hij
      rw [(sameS_iff _ _ _ _ _ _).2 ⟨rfl, h9.trans e1, h10.trans e2⟩] at hsm
      cases hsm
    · rcases hji with h11 | h11
      · exact absurd h11 hij
      · exact Dg.seal_index _ s h 15 m i j (by unfold Dg.Z; omega) (Nat.le_refl _) hi hj (by omega) (fun t ht => List.mem_append_left _ ht) (fun e => hij e.symm) (by rw [e1, ← h11, h9])
  · exact h8
set_option maxRecDepth 100000 in
set_option maxHeartbeats 16000000 in
theorem law_changes (s m x : ByteArray) (r1 r2 r3 : Nat) (w : World) (he : Env w) (hr1 : r1 ≤ 255) (hr2 : r2 ≤ 255) (hr3 : r3 ≤ 255) (hs : s.size ≤ 9223372036854775807) (hm : m.size ≤ 9223372036854775807) (hx : x.size ≤ 9223372036854775807) :
    Calls Tryd.prog 6 #[.string s, .int .u8 r1, .int .u8 r2, .string m, .int .u8 r3, .string x] w fun e w' => e = .returned (.bool true) ∧ Below w.heap.size w w' := by
  have hm2 := hide (mem3 (a := s) (b := m) (c := x) (n := 9223372036854775807) hs hm hx)
  obtain ⟨h, hh⟩ : ∃ h : Nat, r1 % 3 = h := ⟨_, rfl⟩
  have h3 : h ≤ 2 := by omega
  have e1 : (r1 : Int) % 3 = (h : Int) := by omega
  have hp := Nat.pow_le_pow_right (n := 2) (by omega) h3
  have hp1 := Nat.one_le_two_pow (n := h)
  obtain ⟨n, hn⟩ : ∃ n : Nat, 2 ^ h = n := ⟨_, rfl⟩
  have hw := pow_wrap h n hn (by omega)
  have hw2 := pow_wrapK h n hn (by omega)
  rw [hn] at hp hp1
  have hp : n ≤ 4 := hp
  obtain ⟨i, hi⟩ : ∃ i : Nat, r2 % n = i := ⟨_, rfl⟩
  have hin : i < n := by rw [← hi]; exact Nat.mod_lt _ (Nat.lt_of_lt_of_le Nat.zero_lt_one hp1)
  have e2 : (r2 : Int) % (n : Int) = (i : Int) := by rw [← hi]; push_cast; rfl
  have HN := hide hn; clear hn hh hi
  have hn0 : (0 : Int) < (n : Int) := by omega
  go_enter Tryd.func6, Tryd.ntmps6
  have hb := Below.refl w.heap.size w
  go_wp2_with fail
  refine (head3_of w he).mono ?_
  rintro e w1 ⟨rfl, hb1⟩
  replace he := he.next hb1
  replace hb := bnext hb hb1; clear hb1
  go_wp2_with fail
  cases hsh : shortB [s, m, x] with
  | false =>
    refine (short3_new [s, m, x] _ _ 3 _ rfl (by decide) hm2.out false hsh _ rfl _ rfl).mono ?_
    rintro e w2 ⟨rfl, rfl⟩
    go_wp2
    go_ret
    exact ⟨rfl, hb.alloc hb.size _⟩
  | true =>
    obtain ⟨zs, zm, zx⟩ := short3 hsh
    have hsh' := hide hsh; clear hsh
    refine (short3_new [s, m, x] _ _ 3 _ rfl (by decide) hm2.out true hsh'.out _ rfl _ rfl).mono ?_
    rintro e w2 ⟨rfl, rfl⟩
    replace he := he.alloc (.cells #[.string s, .string m, .string x] 9)
    replace hb := hb.alloc hb.size (.cells #[.string s, .string m, .string x] 9)
    have hSz := hide (sigB_sz s i m)
    have hTz := hide (sealPath_sz s h i)
    have hSl := hide (Dg.sigB_len s i m)
    have hTl := hide (Dg.sealPath_len s h i (by rw [HN.out]; exact hin))
    generalize hP : Dg.publicB s h = P at *
    generalize hSG : Dg.sigB s i m = SG at *
    generalize hPT : Dg.sealPath s h i = PT at *
    have HP := hide hP; have HSG := hide hSG; have HPT := hide hPT
    clear hP hSG hPT
    go_wp2_with fail
    refine (public_any s h (by omega) (by omega) P HP.out _ he).mono ?_
    rintro e w3 ⟨rfl, hb3⟩
    replace he := he.next hb3
    replace hb := bnext hb hb3; clear hb3
    go_wp2_with fail
    refine (sign_of s m _ _ h i rfl rfl (by omega) (by omega) (by omega) (by rw [HN.out]; exact hin) SG PT HSG.out HPT.out _ he).mono ?_
    rintro e w4 ⟨A, c, A', c', rfl, hc, hc', hS, hS', hb4⟩
    replace he := he.next hb4
    replace hb := bnext hb hb4; clear hb4
    have hx4 := Below.news (Below.refl w4.heap.size w4) (.cells #[.int .i64 i, .slice A 18 c, .slice A' h c'] 29)
    have hSs := keepS hS hx4
    have hTs := keepS hS' hx4
    have hes := he.next hx4
    have hbs := bnext hb hx4
    obtain ⟨c0, c1, c2⟩ := cells3 (heap_alloc_new w4 (.cells #[.int .i64 i, .slice A 18 c, .slice A' h c'] 29))
    clear hb hS hS' he hx4
    go_upto_region 10 with (fail)
    generalize w4.alloc (.cells #[.int .i64 i, .slice A 18 c, .slice A' h c'] 29) = wS at *
    generalize w4.heap.size = q at *
    go_cut [20] from 71 to 81 (fun v wx => ∃ (g : Nat) (A1 : Option Addr) (d1 : Nat) (A2 : Option Addr) (d2 : Nat), v = .pointer (some ⟨g, 0, none⟩) ∧ OwnL wx wS.heap.size [(.slice (some ⟨g, 0, none⟩) 3 3, 29, [.int .i64 i, .slice A1 18 d1, .slice A2 h d2]), (.slice A1 18 d1, 9, SG.map .string), (.slice A2 h d2, 9, PT.map .string)] ∧ Below wS.heap.size wS wx)
    case first =>
      have hmx : Tryd.prog.follows .mixedOrders = true := by kernel_rfl
      have hHeld : (fun W' : World => W'.cell? ⟨q, 0, none⟩ = some (.int .i64 (i : Int)) ∧ W'.cell? ⟨q, 1, none⟩ = some (.slice A 18 c) ∧ W'.cell? ⟨q, 2, none⟩ = some (.slice A' h c')) wS.drew := ⟨c0, c1, c2⟩
      have hb_u0 : Below wS.heap.size wS wS.drew := (Below.refl _ _).drew
      have hL_u0 := OwnL.nil wS.drew wS.heap.size
      have hqS : q < wS.heap.size := block_lt_of_cell c0
      refine wp_region_noPanic ?_
      refine wp_region_L (fun W' : World => W'.cell? ⟨q, 0, none⟩ = some (.int .i64 (i : Int)) ∧ W'.cell? ⟨q, 1, none⟩ = some (.slice A 18 c) ∧ W'.cell? ⟨q, 2, none⟩ = some (.slice A' h c')) 13 hmx ?_
      have hH_u0 := hHeld
      generalize wS.drew = u0 at *
      refine wpAnyL_take (i := 0) (f0 := 16) (v := ?_) rfl (by decide +kernel) (by decide +kernel) (by decide +kernel) (by decide +kernel) (by decide +kernel) (fun _ _ _ h => h) (Or.inl ⟨by rfl, ?_⟩) hHeld ?_
      rotate_left
      · intro wS hS; obtain ⟨hS1, hS2, hS3⟩ := hS; go_simp; (try with_reducible rfl)
      simp only [Act.put, List.setIfInBounds_toArray]
      refine wpAnyL_take (i := 1) (f0 := 16) (v := ?_) rfl (by decide +kernel) (by decide +kernel) (by decide +kernel) (by decide +kernel) (by decide +kernel) (fun _ _ _ h => h) (Or.inl ⟨by rfl, ?_⟩) hHeld ?_
      rotate_left
      · intro wS hS; obtain ⟨hS1, hS2, hS3⟩ := hS; go_simp; (try with_reducible rfl)
      simp only [Act.put]
      refine wpAnyL_take (i := 3) (f0 := 16) (v := ?_) rfl (by decide +kernel) (by decide +kernel) (by decide +kernel) (by decide +kernel) (by decide +kernel) (fun _ _ _ h => h) (Or.inl ⟨by rfl, ?_⟩) hHeld ?_
      rotate_left
      · intro wS hS; obtain ⟨hS1, hS2, hS3⟩ := hS; go_simp; (try with_reducible rfl)
      simp only [Act.put]
      refine wpAnyL_take (i := 4) (f0 := 16) (v := ?_) rfl (by decide +kernel) (by decide +kernel) (by decide +kernel) (by decide +kernel) (by decide +kernel) (fun _ _ _ h => h) (Or.inl ⟨by rfl, ?_⟩) hHeld ?_
      rotate_left
      · intro wS hS; obtain ⟨hS1, hS2, hS3⟩ := hS; go_simp; (try with_reducible rfl)
      simp only [Act.put]
      refine wpAnyL_take (i := 7) (f0 := 16) (v := ?_) rfl (by decide +kernel) (by decide +kernel) (by decide +kernel) (by decide +kernel) (by decide +kernel) (fun _ _ _ h => h) (Or.inl ⟨by rfl, ?_⟩) hHeld ?_
      rotate_left
      · intro wS hS; obtain ⟨hS1, hS2, hS3⟩ := hS; go_simp; (try with_reducible rfl)
      simp only [Act.put]
      refine wpAnyL_take (i := 8) (f0 := 16) (v := ?_) rfl (by decide +kernel) (by decide +kernel) (by decide +kernel) (by decide +kernel) (by decide +kernel) (fun _ _ _ h => h) (Or.inl ⟨by rfl, ?_⟩) hHeld ?_
      rotate_left
      · intro wS hS; obtain ⟨hS1, hS2, hS3⟩ := hS; go_simp; (try with_reducible rfl)
      simp only [Act.put]
      clear hHeld
      refine wpAnyL_three (i := 2) (j := 6) (l := 11) (by decide +kernel) (by rfl) (by rfl) (by rfl) (fun K hK => ?_) (fun K hK => ?_) (fun K hK => ?_)
      · rw [if_pos (by rfl)]
        go_simp
        have hx_u1 := Below.news (Below.refl u0.heap.size u0) (.cells #[] 9)
        have hb_u1 := bnext hb_u0 hx_u1
        have hL_u1 := OwnL.lit hL_u0 hb_u0.size #[] 9 0 rfl (by unfold maxLen; omega)
        have hH_u1 : (fun W' : World => W'.cell? ⟨q, 0, none⟩ = some (.int .i64 (i : Int)) ∧ W'.cell? ⟨q, 1, none⟩ = some (.slice A 18 c) ∧ W'.cell? ⟨q, 2, none⟩ = some (.slice A' h c')) (u0.alloc (.cells #[] 9)) := ⟨(hx_u1.cell (block_lt_of_cell hH_u0.1)).trans hH_u0.1, (hx_u1.cell (block_lt_of_cell hH_u0.2.1)).trans hH_u0.2.1, (hx_u1.cell (block_lt_of_cell hH_u0.2.2)).trans hH_u0.2.2⟩
        refine hK.out _ _ (Or.inr hH_u1) ?_
        clear hK K hx_u1
        try simp only [Act.put, List.setIfInBounds_toArray, List.set_cons_zero, List.set_cons_succ]
        generalize hg_u1 : u0.heap.size = nu1 at *
        generalize u0.alloc (.cells #[] 9) = u1 at *
        refine wpAnyL_three (i := 5) (j := 6) (l := 11) (by decide +kernel) (by rfl) (by rfl) (by rfl) (fun K hK => ?_) (fun K hK => ?_) (fun K hK => ?_)
        · rw [if_pos (by rfl)]
          refine wp_al (.tmp 73) (.tmp 75) 27 9 _ 16 (by rfl) Tryd.underlying27 strInfo rfl (by omega) wS.heap.size _ _ _ (by rfl) (hL_u1) A 18 c (SG.map .string) (by rfl) (by rw [List.length_map]; exact hSl.out) (Src.strs (keepS hSs hb_u1)) (by simp only [List.length_nil]; omega) hb_u1.size ?_
          intro v_u2 u2 hL_u2 hx_u2
          rw [List.nil_append] at hL_u2
          obtain ⟨A_u2, d_u2, hv_u2⟩ := OwnV.form hL_u2.head
          rw [List.length_map, hSl.out] at hv_u2
          subst hv_u2
          have hb_u2 := hb_u1.trans hx_u2
          have hH_u2 : (fun W' : World => W'.cell? ⟨q, 0, none⟩ = some (.int .i64 (i : Int)) ∧ W'.cell? ⟨q, 1, none⟩ = some (.slice A 18 c) ∧ W'.cell? ⟨q, 2, none⟩ = some (.slice A' h c')) u2 := ⟨(hb_u2.cell hqS).trans c0, (hb_u2.cell hqS).trans c1, (hb_u2.cell hqS).trans c2⟩
          refine hK.out _ _ (Or.inr hH_u2) ?_
          clear hK K hx_u2
          try simp only [Act.put, List.setIfInBounds_toArray]
          refine wpAnyL_two (i := 6) (j := 11) (by decide +kernel) (by rfl) (by rfl) (fun K hK => ?_) (fun K hK => ?_)
          · rw [if_pos (by rfl)]
            go_simp
            have hx_u3 := Below.news (Below.refl u2.heap.size u2) (.cells #[] 9)
            have hb_u3 := bnext hb_u2 hx_u3
            have hL_u3 := OwnL.lit hL_u2 hb_u2.size #[] 9 0 rfl (by unfold maxLen; omega)
            have hH_u3 : (fun W' : World => W'.cell? ⟨q, 0, none⟩ = some (.int .i64 (i : Int)) ∧ W'.cell? ⟨q, 1, none⟩ = some (.slice A 18 c) ∧ W'.cell? ⟨q, 2, none⟩ = some (.slice A' h c')) (u2.alloc (.cells #[] 9)) := ⟨(hx_u3.cell (block_lt_of_cell hH_u2.1)).trans hH_u2.1, (hx_u3.cell (block_lt_of_cell hH_u2.2.1)).trans hH_u2.2.1, (hx_u3.cell (block_lt_of_cell hH_u2.2.2)).trans hH_u2.2.2⟩
            refine hK.out _ _ (Or.inr hH_u3) ?_
            clear hK K hx_u3
            try simp only [Act.put, List.setIfInBounds_toArray, List.set_cons_zero, List.set_cons_succ]
            generalize hg_u3 : u2.heap.size = nu3 at *
            generalize u2.alloc (.cells #[] 9) = u3 at *
            refine wpAnyL_two (i := 9) (j := 11) (by decide +kernel) (by rfl) (by rfl) (fun K hK => ?_) (fun K hK => ?_)
            · rw [if_pos (by rfl)]
              refine wp_al (.tmp 77) (.tmp 79) 27 9 _ 16 (by rfl) Tryd.underlying27 strInfo rfl (by omega) wS.heap.size _ _ _ (by rfl) (hL_u3) A' h c' (PT.map .string) (by rfl) (by rw [List.length_map]; exact hTl.out) (Src.strs (keepS hTs hb_u3)) (by simp only [List.length_nil]; omega) hb_u3.size ?_
              intro v_u4 u4 hL_u4 hx_u4
              rw [List.nil_append] at hL_u4
              obtain ⟨A_u4, d_u4, hv_u4⟩ := OwnV.form hL_u4.head
              rw [List.length_map, hTl.out] at hv_u4
              subst hv_u4
              have hb_u4 := hb_u3.trans hx_u4
              have hH_u4 : (fun W' : World => W'.cell? ⟨q, 0, none⟩ = some (.int .i64 (i : Int)) ∧ W'.cell? ⟨q, 1, none⟩ = some (.slice A 18 c) ∧ W'.cell? ⟨q, 2, none⟩ = some (.slice A' h c')) u4 := ⟨(hb_u4.cell hqS).trans c0, (hb_u4.cell hqS).trans c1, (hb_u4.cell hqS).trans c2⟩
              refine hK.out _ _ (Or.inr hH_u4) ?_
              clear hK K hx_u4
              try simp only [Act.put, List.setIfInBounds_toArray]
              refine wpAnyL_take (i := 10) (f0 := 16) (v := ?_) rfl (by decide +kernel) (by decide +kernel) (by decide +kernel) (by decide +kernel) (by decide +kernel) (fun _ _ _ h => h) (Or.inl ⟨by rfl, ?_⟩) hH_u4 ?_
              rotate_left
              · intro wS hS; obtain ⟨hS1, hS2, hS3⟩ := hS; go_simp; (try with_reducible rfl)
              simp only [Act.put]
              refine wpAnyL_one (i := 11) (by decide +kernel) (by rfl) (fun K hK => ?_)
              rw [if_pos (by rfl)]
              go_simp
              have hx_u5 := Below.news (Below.refl u4.heap.size u4) (.cells #[.int .i64 0, .slice none 0 0, .slice none 0 0] 29)
              have hb_u5 := bnext hb_u4 hx_u5
              have hL_u5 := OwnL.lit hL_u4 hb_u4.size #[.int .i64 0, .slice none 0 0, .slice none 0 0] 29 3 rfl (by unfold maxLen; omega)
              have hH_u5 : (fun W' : World => W'.cell? ⟨q, 0, none⟩ = some (.int .i64 (i : Int)) ∧ W'.cell? ⟨q, 1, none⟩ = some (.slice A 18 c) ∧ W'.cell? ⟨q, 2, none⟩ = some (.slice A' h c')) (u4.alloc (.cells #[.int .i64 0, .slice none 0 0, .slice none 0 0] 29)) := ⟨(hx_u5.cell (block_lt_of_cell hH_u4.1)).trans hH_u4.1, (hx_u5.cell (block_lt_of_cell hH_u4.2.1)).trans hH_u4.2.1, (hx_u5.cell (block_lt_of_cell hH_u4.2.2)).trans hH_u4.2.2⟩
              refine hK.out _ _ (Or.inr hH_u5) ?_
              clear hK K hx_u5
              try simp only [Act.put, List.setIfInBounds_toArray, List.set_cons_zero, List.set_cons_succ]
              generalize hg_u5 : u4.heap.size = nu5 at *
              generalize u4.alloc (.cells #[.int .i64 0, .slice none 0 0, .slice none 0 0] 29) = u5 at *
              refine wpAnyL_one (i := 12) (by decide +kernel) (by rfl) (fun K hK => ?_)
              rw [if_pos (by rfl)]
              have hZ := OwnL.perm (hL_u5) ((List.Perm.swap _ _ _).cons _)
              have hrow := OwnV.row hZ.head
              obtain ⟨z0, z1, z2⟩ := cells3 hrow
              have y0 := frozen_of_row _ nu5 0 _ _ hrow
              have y1 := frozen_of_row _ nu5 1 _ _ hrow
              have y2 := frozen_of_row _ nu5 2 _ _ hrow
              have hgB := (hZ.head.lt (g := nu5) rfl).1
              go_simp
              refine hK.out _ _ (Or.inr ⟨(World.cell?_setCell_far _ _ _ _ (by simp <;> omega)).trans ((World.cell?_setCell_far _ _ _ _ (by simp <;> omega)).trans ((World.cell?_setCell_far _ _ _ _ (by simp <;> omega)).trans hH_u5.1)), (World.cell?_setCell_far _ _ _ _ (by simp <;> omega)).trans ((World.cell?_setCell_far _ _ _ _ (by simp <;> omega)).trans ((World.cell?_setCell_far _ _ _ _ (by simp <;> omega)).trans hH_u5.2.1)), (World.cell?_setCell_far _ _ _ _ (by simp <;> omega)).trans ((World.cell?_setCell_far _ _ _ _ (by simp <;> omega)).trans ((World.cell?_setCell_far _ _ _ _ (by simp <;> omega)).trans hH_u5.2.2))⟩) ?_
              clear hK K
              try simp only [Act.put, List.setIfInBounds_toArray, List.set_cons_zero, List.set_cons_succ]
              refine wpAnyL_done (by decide +kernel) ?_ _
              refine NoPanic.normal ?_
              go_wp2_with fail
              go_meet
              exact ⟨nu5, _, _, _, _, rfl, ((hZ.set 0 _).set 1 _).set 2 _, ((hb_u5.setCell (p := ⟨nu5, 0, none⟩) hgB _).setCell (p := ⟨nu5, 1, none⟩) hgB _).setCell (p := ⟨nu5, 2, none⟩) hgB _⟩
            · rw [if_pos (by rfl)]
              go_simp
              have hx_u6 := Below.news (Below.refl u3.heap.size u3) (.cells #[.int .i64 0, .slice none 0 0, .slice none 0 0] 29)
              have hb_u6 := bnext hb_u3 hx_u6
              have hL_u6 := OwnL.lit hL_u3 hb_u3.size #[.int .i64 0, .slice none 0 0, .slice none 0 0] 29 3 rfl (by unfold maxLen; omega)
              have hH_u6 : (fun W' : World => W'.cell? ⟨q, 0, none⟩ = some (.int .i64 (i : Int)) ∧ W'.cell? ⟨q, 1, none⟩ = some (.slice A 18 c) ∧ W'.cell? ⟨q, 2, none⟩ = some (.slice A' h c')) (u3.alloc (.cells #[.int .i64 0, .slice none 0 0, .slice none 0 0] 29)) := ⟨(hx_u6.cell (block_lt_of_cell hH_u3.1)).trans hH_u3.1, (hx_u6.cell (block_lt_of_cell hH_u3.2.1)).trans hH_u3.2.1, (hx_u6.cell (block_lt_of_cell hH_u3.2.2)).trans hH_u3.2.2⟩
              refine hK.out _ _ (Or.inr hH_u6) ?_
              clear hK K hx_u6
              try simp only [Act.put, List.setIfInBounds_toArray, List.set_cons_zero, List.set_cons_succ]
              generalize hg_u6 : u3.heap.size = nu6 at *
              generalize u3.alloc (.cells #[.int .i64 0, .slice none 0 0, .slice none 0 0] 29) = u6 at *
              refine wpAnyL_one (i := 9) (by decide +kernel) (by rfl) (fun K hK => ?_)
              rw [if_pos (by rfl)]
              refine wp_al (.tmp 77) (.tmp 79) 27 9 _ 16 (by rfl) Tryd.underlying27 strInfo rfl (by omega) wS.heap.size _ _ _ (by rfl) ((hL_u6).swap) A' h c' (PT.map .string) (by rfl) (by rw [List.length_map]; exact hTl.out) (Src.strs (keepS hTs hb_u6)) (by simp only [List.length_nil]; omega) hb_u6.size ?_
              intro v_u7 u7 hL_u7 hx_u7
              rw [List.nil_append] at hL_u7
              obtain ⟨A_u7, d_u7, hv_u7⟩ := OwnV.form hL_u7.head
              rw [List.length_map, hTl.out] at hv_u7
              subst hv_u7
              have hb_u7 := hb_u6.trans hx_u7
              have hH_u7 : (fun W' : World => W'.cell? ⟨q, 0, none⟩ = some (.int .i64 (i : Int)) ∧ W'.cell? ⟨q, 1, none⟩ = some (.slice A 18 c) ∧ W'.cell? ⟨q, 2, none⟩ = some (.slice A' h c')) u7 := ⟨(hb_u7.cell hqS).trans c0, (hb_u7.cell hqS).trans c1, (hb_u7.cell hqS).trans c2⟩
              refine hK.out _ _ (Or.inr hH_u7) ?_
              clear hK K hx_u7
              try simp only [Act.put, List.setIfInBounds_toArray]
              refine wpAnyL_take (i := 10) (f0 := 16) (v := ?_) rfl (by decide +kernel) (by decide +kernel) (by decide +kernel) (by decide +kernel) (by decide +kernel) (fun _ _ _ h => h) (Or.inl ⟨by rfl, ?_⟩) hH_u7 ?_
              rotate_left
              · intro wS hS; obtain ⟨hS1, hS2, hS3⟩ := hS; go_simp; (try with_reducible rfl)
              simp only [Act.put]
              refine wpAnyL_one (i := 12) (by decide +kernel) (by rfl) (fun K hK => ?_)
              rw [if_pos (by rfl)]
              have hZ := OwnL.perm ((hL_u7).swap) ((List.Perm.swap _ _ _).cons _)
              have hrow := OwnV.row hZ.head
              obtain ⟨z0, z1, z2⟩ := cells3 hrow
              have y0 := frozen_of_row _ nu6 0 _ _ hrow
              have y1 := frozen_of_row _ nu6 1 _ _ hrow
              have y2 := frozen_of_row _ nu6 2 _ _ hrow
              have hgB := (hZ.head.lt (g := nu6) rfl).1
              go_simp
              refine hK.out _ _ (Or.inr ⟨(World.cell?_setCell_far _ _ _ _ (by simp <;> omega)).trans ((World.cell?_setCell_far _ _ _ _ (by simp <;> omega)).trans ((World.cell?_setCell_far _ _ _ _ (by simp <;> omega)).trans hH_u7.1)), (World.cell?_setCell_far _ _ _ _ (by simp <;> omega)).trans ((World.cell?_setCell_far _ _ _ _ (by simp <;> omega)).trans ((World.cell?_setCell_far _ _ _ _ (by simp <;> omega)).trans hH_u7.2.1)), (World.cell?_setCell_far _ _ _ _ (by simp <;> omega)).trans ((World.cell?_setCell_far _ _ _ _ (by simp <;> omega)).trans ((World.cell?_setCell_far _ _ _ _ (by simp <;> omega)).trans hH_u7.2.2))⟩) ?_
              clear hK K
              try simp only [Act.put, List.setIfInBounds_toArray, List.set_cons_zero, List.set_cons_succ]
              refine wpAnyL_done (by decide +kernel) ?_ _
              refine NoPanic.normal ?_
              go_wp2_with fail
              go_meet
              exact ⟨nu6, _, _, _, _, rfl, ((hZ.set 0 _).set 1 _).set 2 _, ((hb_u7.setCell (p := ⟨nu6, 0, none⟩) hgB _).setCell (p := ⟨nu6, 1, none⟩) hgB _).setCell (p := ⟨nu6, 2, none⟩) hgB _⟩
          · rw [if_pos (by rfl)]
            go_simp
            have hx_u8 := Below.news (Below.refl u2.heap.size u2) (.cells #[.int .i64 0, .slice none 0 0, .slice none 0 0] 29)
            have hb_u8 := bnext hb_u2 hx_u8
            have hL_u8 := OwnL.lit hL_u2 hb_u2.size #[.int .i64 0, .slice none 0 0, .slice none 0 0] 29 3 rfl (by unfold maxLen; omega)
            have hH_u8 : (fun W' : World => W'.cell? ⟨q, 0, none⟩ = some (.int .i64 (i : Int)) ∧ W'.cell? ⟨q, 1, none⟩ = some (.slice A 18 c) ∧ W'.cell? ⟨q, 2, none⟩ = some (.slice A' h c')) (u2.alloc (.cells #[.int .i64 0, .slice none 0 0, .slice none 0 0] 29)) := ⟨(hx_u8.cell (block_lt_of_cell hH_u2.1)).trans hH_u2.1, (hx_u8.cell (block_lt_of_cell hH_u2.2.1)).trans hH_u2.2.1, (hx_u8.cell (block_lt_of_cell hH_u2.2.2)).trans hH_u2.2.2⟩
            refine hK.out _ _ (Or.inr hH_u8) ?_
            clear hK K hx_u8
            try simp only [Act.put, List.setIfInBounds_toArray, List.set_cons_zero, List.set_cons_succ]
            generalize hg_u8 : u2.heap.size = nu8 at *
            generalize u2.alloc (.cells #[.int .i64 0, .slice none 0 0, .slice none 0 0] 29) = u8 at *
            refine wpAnyL_one (i := 6) (by decide +kernel) (by rfl) (fun K hK => ?_)
            rw [if_pos (by rfl)]
            go_simp
            have hx_u9 := Below.news (Below.refl u8.heap.size u8) (.cells #[] 9)
            have hb_u9 := bnext hb_u8 hx_u9
            have hL_u9 := OwnL.lit hL_u8 hb_u8.size #[] 9 0 rfl (by unfold maxLen; omega)
            have hH_u9 : (fun W' : World => W'.cell? ⟨q, 0, none⟩ = some (.int .i64 (i : Int)) ∧ W'.cell? ⟨q, 1, none⟩ = some (.slice A 18 c) ∧ W'.cell? ⟨q, 2, none⟩ = some (.slice A' h c')) (u8.alloc (.cells #[] 9)) := ⟨(hx_u9.cell (block_lt_of_cell hH_u8.1)).trans hH_u8.1, (hx_u9.cell (block_lt_of_cell hH_u8.2.1)).trans hH_u8.2.1, (hx_u9.cell (block_lt_of_cell hH_u8.2.2)).trans hH_u8.2.2⟩
            refine hK.out _ _ (Or.inr hH_u9) ?_
            clear hK K hx_u9
            try simp only [Act.put, List.setIfInBounds_toArray, List.set_cons_zero, List.set_cons_succ]
            generalize hg_u9 : u8.heap.size = nu9 at *
            generalize u8.alloc (.cells #[] 9) = u9 at *
            refine wpAnyL_one (i := 9) (by decide +kernel) (by rfl) (fun K hK => ?_)
            rw [if_pos (by rfl)]
            refine wp_al (.tmp 77) (.tmp 79) 27 9 _ 16 (by rfl) Tryd.underlying27 strInfo rfl (by omega) wS.heap.size _ _ _ (by rfl) (hL_u9) A' h c' (PT.map .string) (by rfl) (by rw [List.length_map]; exact hTl.out) (Src.strs (keepS hTs hb_u9)) (by simp only [List.length_nil]; omega) hb_u9.size ?_
            intro v_u10 u10 hL_u10 hx_u10
            rw [List.nil_append] at hL_u10
            obtain ⟨A_u10, d_u10, hv_u10⟩ := OwnV.form hL_u10.head
            rw [List.length_map, hTl.out] at hv_u10
            subst hv_u10
            have hb_u10 := hb_u9.trans hx_u10
            have hH_u10 : (fun W' : World => W'.cell? ⟨q, 0, none⟩ = some (.int .i64 (i : Int)) ∧ W'.cell? ⟨q, 1, none⟩ = some (.slice A 18 c) ∧ W'.cell? ⟨q, 2, none⟩ = some (.slice A' h c')) u10 := ⟨(hb_u10.cell hqS).trans c0, (hb_u10.cell hqS).trans c1, (hb_u10.cell hqS).trans c2⟩
            refine hK.out _ _ (Or.inr hH_u10) ?_
            clear hK K hx_u10
            try simp only [Act.put, List.setIfInBounds_toArray]
            refine wpAnyL_take (i := 10) (f0 := 16) (v := ?_) rfl (by decide +kernel) (by decide +kernel) (by decide +kernel) (by decide +kernel) (by decide +kernel) (fun _ _ _ h => h) (Or.inl ⟨by rfl, ?_⟩) hH_u10 ?_
            rotate_left
            · intro wS hS; obtain ⟨hS1, hS2, hS3⟩ := hS; go_simp; (try with_reducible rfl)
            simp only [Act.put]
            refine wpAnyL_one (i := 12) (by decide +kernel) (by rfl) (fun K hK => ?_)
            rw [if_pos (by rfl)]
            have hZ := OwnL.perm ((hL_u10).swap) ((List.Perm.swap _ _ _).cons _)
            have hrow := OwnV.row hZ.head
            obtain ⟨z0, z1, z2⟩ := cells3 hrow
            have y0 := frozen_of_row _ nu8 0 _ _ hrow
            have y1 := frozen_of_row _ nu8 1 _ _ hrow
            have y2 := frozen_of_row _ nu8 2 _ _ hrow
            have hgB := (hZ.head.lt (g := nu8) rfl).1
            go_simp
            refine hK.out _ _ (Or.inr ⟨(World.cell?_setCell_far _ _ _ _ (by simp <;> omega)).trans ((World.cell?_setCell_far _ _ _ _ (by simp <;> omega)).trans ((World.cell?_setCell_far _ _ _ _ (by simp <;> omega)).trans hH_u10.1)), (World.cell?_setCell_far _ _ _ _ (by simp <;> omega)).trans ((World.cell?_setCell_far _ _ _ _ (by simp <;> omega)).trans ((World.cell?_setCell_far _ _ _ _ (by simp <;> omega)).trans hH_u10.2.1)), (World.cell?_setCell_far _ _ _ _ (by simp <;> omega)).trans ((World.cell?_setCell_far _ _ _ _ (by simp <;> omega)).trans ((World.cell?_setCell_far _ _ _ _ (by simp <;> omega)).trans hH_u10.2.2))⟩) ?_
            clear hK K
            try simp only [Act.put, List.setIfInBounds_toArray, List.set_cons_zero, List.set_cons_succ]
            refine wpAnyL_done (by decide +kernel) ?_ _
            refine NoPanic.normal ?_
            go_wp2_with fail
            go_meet
            exact ⟨nu8, _, _, _, _, rfl, ((hZ.set 0 _).set 1 _).set 2 _, ((hb_u10.setCell (p := ⟨nu8, 0, none⟩) hgB _).setCell (p := ⟨nu8, 1, none⟩) hgB _).setCell (p := ⟨nu8, 2, none⟩) hgB _⟩
        · rw [if_pos (by rfl)]
          go_simp
          have hx_u11 := Below.news (Below.refl u1.heap.size u1) (.cells #[] 9)
          have hb_u11 := bnext hb_u1 hx_u11
          have hL_u11 := OwnL.lit hL_u1 hb_u1.size #[] 9 0 rfl (by unfold maxLen; omega)
          have hH_u11 : (fun W' : World => W'.cell? ⟨q, 0, none⟩ = some (.int .i64 (i : Int)) ∧ W'.cell? ⟨q, 1, none⟩ = some (.slice A 18 c) ∧ W'.cell? ⟨q, 2, none⟩ = some (.slice A' h c')) (u1.alloc (.cells #[] 9)) := ⟨(hx_u11.cell (block_lt_of_cell hH_u1.1)).trans hH_u1.1, (hx_u11.cell (block_lt_of_cell hH_u1.2.1)).trans hH_u1.2.1, (hx_u11.cell (block_lt_of_cell hH_u1.2.2)).trans hH_u1.2.2⟩
          refine hK.out _ _ (Or.inr hH_u11) ?_
          clear hK K hx_u11
          try simp only [Act.put, List.setIfInBounds_toArray, List.set_cons_zero, List.set_cons_succ]
          generalize hg_u11 : u1.heap.size = nu11 at *
          generalize u1.alloc (.cells #[] 9) = u11 at *
          refine wpAnyL_two (i := 5) (j := 11) (by decide +kernel) (by rfl) (by rfl) (fun K hK => ?_) (fun K hK => ?_)
          · rw [if_pos (by rfl)]
            refine wp_al (.tmp 73) (.tmp 75) 27 9 _ 16 (by rfl) Tryd.underlying27 strInfo rfl (by omega) wS.heap.size _ _ _ (by rfl) ((hL_u11).swap) A 18 c (SG.map .string) (by rfl) (by rw [List.length_map]; exact hSl.out) (Src.strs (keepS hSs hb_u11)) (by simp only [List.length_nil]; omega) hb_u11.size ?_
            intro v_u12 u12 hL_u12 hx_u12
            rw [List.nil_append] at hL_u12
            obtain ⟨A_u12, d_u12, hv_u12⟩ := OwnV.form hL_u12.head
            rw [List.length_map, hSl.out] at hv_u12
            subst hv_u12
            have hb_u12 := hb_u11.trans hx_u12
            have hH_u12 : (fun W' : World => W'.cell? ⟨q, 0, none⟩ = some (.int .i64 (i : Int)) ∧ W'.cell? ⟨q, 1, none⟩ = some (.slice A 18 c) ∧ W'.cell? ⟨q, 2, none⟩ = some (.slice A' h c')) u12 := ⟨(hb_u12.cell hqS).trans c0, (hb_u12.cell hqS).trans c1, (hb_u12.cell hqS).trans c2⟩
            refine hK.out _ _ (Or.inr hH_u12) ?_
            clear hK K hx_u12
            try simp only [Act.put, List.setIfInBounds_toArray]
            refine wpAnyL_two (i := 9) (j := 11) (by decide +kernel) (by rfl) (by rfl) (fun K hK => ?_) (fun K hK => ?_)
            · rw [if_pos (by rfl)]
              refine wp_al (.tmp 77) (.tmp 79) 27 9 _ 16 (by rfl) Tryd.underlying27 strInfo rfl (by omega) wS.heap.size _ _ _ (by rfl) ((hL_u12).swap) A' h c' (PT.map .string) (by rfl) (by rw [List.length_map]; exact hTl.out) (Src.strs (keepS hTs hb_u12)) (by simp only [List.length_nil]; omega) hb_u12.size ?_
              intro v_u13 u13 hL_u13 hx_u13
              rw [List.nil_append] at hL_u13
              obtain ⟨A_u13, d_u13, hv_u13⟩ := OwnV.form hL_u13.head
              rw [List.length_map, hTl.out] at hv_u13
              subst hv_u13
              have hb_u13 := hb_u12.trans hx_u13
              have hH_u13 : (fun W' : World => W'.cell? ⟨q, 0, none⟩ = some (.int .i64 (i : Int)) ∧ W'.cell? ⟨q, 1, none⟩ = some (.slice A 18 c) ∧ W'.cell? ⟨q, 2, none⟩ = some (.slice A' h c')) u13 := ⟨(hb_u13.cell hqS).trans c0, (hb_u13.cell hqS).trans c1, (hb_u13.cell hqS).trans c2⟩
              refine hK.out _ _ (Or.inr hH_u13) ?_
              clear hK K hx_u13
              try simp only [Act.put]
              refine wpAnyL_take (i := 10) (f0 := 16) (v := ?_) rfl (by decide +kernel) (by decide +kernel) (by decide +kernel) (by decide +kernel) (by decide +kernel) (fun _ _ _ h => h) (Or.inl ⟨by rfl, ?_⟩) hH_u13 ?_
              rotate_left
              · intro wS hS; obtain ⟨hS1, hS2, hS3⟩ := hS; go_simp; (try with_reducible rfl)
              simp only [Act.put]
              refine wpAnyL_one (i := 11) (by decide +kernel) (by rfl) (fun K hK => ?_)
              rw [if_pos (by rfl)]
              go_simp
              have hx_u14 := Below.news (Below.refl u13.heap.size u13) (.cells #[.int .i64 0, .slice none 0 0, .slice none 0 0] 29)
              have hb_u14 := bnext hb_u13 hx_u14
              have hL_u14 := OwnL.lit hL_u13 hb_u13.size #[.int .i64 0, .slice none 0 0, .slice none 0 0] 29 3 rfl (by unfold maxLen; omega)
              have hH_u14 : (fun W' : World => W'.cell? ⟨q, 0, none⟩ = some (.int .i64 (i : Int)) ∧ W'.cell? ⟨q, 1, none⟩ = some (.slice A 18 c) ∧ W'.cell? ⟨q, 2, none⟩ = some (.slice A' h c')) (u13.alloc (.cells #[.int .i64 0, .slice none 0 0, .slice none 0 0] 29)) := ⟨(hx_u14.cell (block_lt_of_cell hH_u13.1)).trans hH_u13.1, (hx_u14.cell (block_lt_of_cell hH_u13.2.1)).trans hH_u13.2.1, (hx_u14.cell (block_lt_of_cell hH_u13.2.2)).trans hH_u13.2.2⟩
              refine hK.out _ _ (Or.inr hH_u14) ?_
              clear hK K hx_u14
              try simp only [Act.put, List.setIfInBounds_toArray, List.set_cons_zero, List.set_cons_succ]
              generalize hg_u14 : u13.heap.size = nu14 at *
              generalize u13.alloc (.cells #[.int .i64 0, .slice none 0 0, .slice none 0 0] 29) = u14 at *
              refine wpAnyL_one (i := 12) (by decide +kernel) (by rfl) (fun K hK => ?_)
              rw [if_pos (by rfl)]
              have hZ := OwnL.perm (hL_u14) ((List.Perm.swap _ _ _).cons _)
              have hrow := OwnV.row hZ.head
              obtain ⟨z0, z1, z2⟩ := cells3 hrow
              have y0 := frozen_of_row _ nu14 0 _ _ hrow
              have y1 := frozen_of_row _ nu14 1 _ _ hrow
              have y2 := frozen_of_row _ nu14 2 _ _ hrow
              have hgB := (hZ.head.lt (g := nu14) rfl).1
              go_simp
              refine hK.out _ _ (Or.inr ⟨(World.cell?_setCell_far _ _ _ _ (by simp <;> omega)).trans ((World.cell?_setCell_far _ _ _ _ (by simp <;> omega)).trans ((World.cell?_setCell_far _ _ _ _ (by simp <;> omega)).trans hH_u14.1)), (World.cell?_setCell_far _ _ _ _ (by simp <;> omega)).trans ((World.cell?_setCell_far _ _ _ _ (by simp <;> omega)).trans ((World.cell?_setCell_far _ _ _ _ (by simp <;> omega)).trans hH_u14.2.1)), (World.cell?_setCell_far _ _ _ _ (by simp <;> omega)).trans ((World.cell?_setCell_far _ _ _ _ (by simp <;> omega)).trans ((World.cell?_setCell_far _ _ _ _ (by simp <;> omega)).trans hH_u14.2.2))⟩) ?_
              clear hK K
              try simp only [Act.put, List.setIfInBounds_toArray, List.set_cons_zero, List.set_cons_succ]
              refine wpAnyL_done (by decide +kernel) ?_ _
              refine NoPanic.normal ?_
              go_wp2_with fail
              go_meet
              exact ⟨nu14, _, _, _, _, rfl, ((hZ.set 0 _).set 1 _).set 2 _, ((hb_u14.setCell (p := ⟨nu14, 0, none⟩) hgB _).setCell (p := ⟨nu14, 1, none⟩) hgB _).setCell (p := ⟨nu14, 2, none⟩) hgB _⟩
            · rw [if_pos (by rfl)]
              go_simp
              have hx_u15 := Below.news (Below.refl u12.heap.size u12) (.cells #[.int .i64 0, .slice none 0 0, .slice none 0 0] 29)
              have hb_u15 := bnext hb_u12 hx_u15
              have hL_u15 := OwnL.lit hL_u12 hb_u12.size #[.int .i64 0, .slice none 0 0, .slice none 0 0] 29 3 rfl (by unfold maxLen; omega)
              have hH_u15 : (fun W' : World => W'.cell? ⟨q, 0, none⟩ = some (.int .i64 (i : Int)) ∧ W'.cell? ⟨q, 1, none⟩ = some (.slice A 18 c) ∧ W'.cell? ⟨q, 2, none⟩ = some (.slice A' h c')) (u12.alloc (.cells #[.int .i64 0, .slice none 0 0, .slice none 0 0] 29)) := ⟨(hx_u15.cell (block_lt_of_cell hH_u12.1)).trans hH_u12.1, (hx_u15.cell (block_lt_of_cell hH_u12.2.1)).trans hH_u12.2.1, (hx_u15.cell (block_lt_of_cell hH_u12.2.2)).trans hH_u12.2.2⟩
              refine hK.out _ _ (Or.inr hH_u15) ?_
              clear hK K hx_u15
              try simp only [Act.put, List.setIfInBounds_toArray, List.set_cons_zero, List.set_cons_succ]
              generalize hg_u15 : u12.heap.size = nu15 at *
              generalize u12.alloc (.cells #[.int .i64 0, .slice none 0 0, .slice none 0 0] 29) = u15 at *
              refine wpAnyL_one (i := 9) (by decide +kernel) (by rfl) (fun K hK => ?_)
              rw [if_pos (by rfl)]
              refine wp_al (.tmp 77) (.tmp 79) 27 9 _ 16 (by rfl) Tryd.underlying27 strInfo rfl (by omega) wS.heap.size _ _ _ (by rfl) ((hL_u15).rot3) A' h c' (PT.map .string) (by rfl) (by rw [List.length_map]; exact hTl.out) (Src.strs (keepS hTs hb_u15)) (by simp only [List.length_nil]; omega) hb_u15.size ?_
              intro v_u16 u16 hL_u16 hx_u16
              rw [List.nil_append] at hL_u16
              obtain ⟨A_u16, d_u16, hv_u16⟩ := OwnV.form hL_u16.head
              rw [List.length_map, hTl.out] at hv_u16
              subst hv_u16
              have hb_u16 := hb_u15.trans hx_u16
              have hH_u16 : (fun W' : World => W'.cell? ⟨q, 0, none⟩ = some (.int .i64 (i : Int)) ∧ W'.cell? ⟨q, 1, none⟩ = some (.slice A 18 c) ∧ W'.cell? ⟨q, 2, none⟩ = some (.slice A' h c')) u16 := ⟨(hb_u16.cell hqS).trans c0, (hb_u16.cell hqS).trans c1, (hb_u16.cell hqS).trans c2⟩
              refine hK.out _ _ (Or.inr hH_u16) ?_
              clear hK K hx_u16
              try simp only [Act.put, List.setIfInBounds_toArray]
              refine wpAnyL_take (i := 10) (f0 := 16) (v := ?_) rfl (by decide +kernel) (by decide +kernel) (by decide +kernel) (by decide +kernel) (by decide +kernel) (fun _ _ _ h => h) (Or.inl ⟨by rfl, ?_⟩) hH_u16 ?_
              rotate_left
              · intro wS hS; obtain ⟨hS1, hS2, hS3⟩ := hS; go_simp; (try with_reducible rfl)
              simp only [Act.put]
              refine wpAnyL_one (i := 12) (by decide +kernel) (by rfl) (fun K hK => ?_)
              rw [if_pos (by rfl)]
              have hZ := OwnL.perm ((hL_u16).swap) ((List.Perm.swap _ _ _).cons _)
              have hrow := OwnV.row hZ.head
              obtain ⟨z0, z1, z2⟩ := cells3 hrow
              have y0 := frozen_of_row _ nu15 0 _ _ hrow
              have y1 := frozen_of_row _ nu15 1 _ _ hrow
              have y2 := frozen_of_row _ nu15 2 _ _ hrow
              have hgB := (hZ.head.lt (g := nu15) rfl).1
              go_simp
              refine hK.out _ _ (Or.inr ⟨(World.cell?_setCell_far _ _ _ _ (by simp <;> omega)).trans ((World.cell?_setCell_far _ _ _ _ (by simp <;> omega)).trans ((World.cell?_setCell_far _ _ _ _ (by simp <;> omega)).trans hH_u16.1)), (World.cell?_setCell_far _ _ _ _ (by simp <;> omega)).trans ((World.cell?_setCell_far _ _ _ _ (by simp <;> omega)).trans ((World.cell?_setCell_far _ _ _ _ (by simp <;> omega)).trans hH_u16.2.1)), (World.cell?_setCell_far _ _ _ _ (by simp <;> omega)).trans ((World.cell?_setCell_far _ _ _ _ (by simp <;> omega)).trans ((World.cell?_setCell_far _ _ _ _ (by simp <;> omega)).trans hH_u16.2.2))⟩) ?_
              clear hK K
              try simp only [Act.put, List.setIfInBounds_toArray, List.set_cons_zero, List.set_cons_succ]
              refine wpAnyL_done (by decide +kernel) ?_ _
              refine NoPanic.normal ?_
              go_wp2_with fail
              go_meet
              exact ⟨nu15, _, _, _, _, rfl, ((hZ.set 0 _).set 1 _).set 2 _, ((hb_u16.setCell (p := ⟨nu15, 0, none⟩) hgB _).setCell (p := ⟨nu15, 1, none⟩) hgB _).setCell (p := ⟨nu15, 2, none⟩) hgB _⟩
          · rw [if_pos (by rfl)]
            go_simp
            have hx_u17 := Below.news (Below.refl u11.heap.size u11) (.cells #[.int .i64 0, .slice none 0 0, .slice none 0 0] 29)
            have hb_u17 := bnext hb_u11 hx_u17
            have hL_u17 := OwnL.lit hL_u11 hb_u11.size #[.int .i64 0, .slice none 0 0, .slice none 0 0] 29 3 rfl (by unfold maxLen; omega)
            have hH_u17 : (fun W' : World => W'.cell? ⟨q, 0, none⟩ = some (.int .i64 (i : Int)) ∧ W'.cell? ⟨q, 1, none⟩ = some (.slice A 18 c) ∧ W'.cell? ⟨q, 2, none⟩ = some (.slice A' h c')) (u11.alloc (.cells #[.int .i64 0, .slice none 0 0, .slice none 0 0] 29)) := ⟨(hx_u17.cell (block_lt_of_cell hH_u11.1)).trans hH_u11.1, (hx_u17.cell (block_lt_of_cell hH_u11.2.1)).trans hH_u11.2.1, (hx_u17.cell (block_lt_of_cell hH_u11.2.2)).trans hH_u11.2.2⟩
            refine hK.out _ _ (Or.inr hH_u17) ?_
            clear hK K hx_u17
            try simp only [Act.put, List.setIfInBounds_toArray, List.set_cons_zero, List.set_cons_succ]
            generalize hg_u17 : u11.heap.size = nu17 at *
            generalize u11.alloc (.cells #[.int .i64 0, .slice none 0 0, .slice none 0 0] 29) = u17 at *
            refine wpAnyL_one (i := 5) (by decide +kernel) (by rfl) (fun K hK => ?_)
            rw [if_pos (by rfl)]
            refine wp_al (.tmp 73) (.tmp 75) 27 9 _ 16 (by rfl) Tryd.underlying27 strInfo rfl (by omega) wS.heap.size _ _ _ (by rfl) ((hL_u17).rot3) A 18 c (SG.map .string) (by rfl) (by rw [List.length_map]; exact hSl.out) (Src.strs (keepS hSs hb_u17)) (by simp only [List.length_nil]; omega) hb_u17.size ?_
            intro v_u18 u18 hL_u18 hx_u18
            rw [List.nil_append] at hL_u18
            obtain ⟨A_u18, d_u18, hv_u18⟩ := OwnV.form hL_u18.head
            rw [List.length_map, hSl.out] at hv_u18
            subst hv_u18
            have hb_u18 := hb_u17.trans hx_u18
            have hH_u18 : (fun W' : World => W'.cell? ⟨q, 0, none⟩ = some (.int .i64 (i : Int)) ∧ W'.cell? ⟨q, 1, none⟩ = some (.slice A 18 c) ∧ W'.cell? ⟨q, 2, none⟩ = some (.slice A' h c')) u18 := ⟨(hb_u18.cell hqS).trans c0, (hb_u18.cell hqS).trans c1, (hb_u18.cell hqS).trans c2⟩
            refine hK.out _ _ (Or.inr hH_u18) ?_
            clear hK K hx_u18
            try simp only [Act.put, List.setIfInBounds_toArray]
            refine wpAnyL_one (i := 9) (by decide +kernel) (by rfl) (fun K hK => ?_)
            rw [if_pos (by rfl)]
            refine wp_al (.tmp 77) (.tmp 79) 27 9 _ 16 (by rfl) Tryd.underlying27 strInfo rfl (by omega) wS.heap.size _ _ _ (by rfl) ((hL_u18).rot3) A' h c' (PT.map .string) (by rfl) (by rw [List.length_map]; exact hTl.out) (Src.strs (keepS hTs hb_u18)) (by simp only [List.length_nil]; omega) hb_u18.size ?_
            intro v_u19 u19 hL_u19 hx_u19
            rw [List.nil_append] at hL_u19
            obtain ⟨A_u19, d_u19, hv_u19⟩ := OwnV.form hL_u19.head
            rw [List.length_map, hTl.out] at hv_u19
            subst hv_u19
            have hb_u19 := hb_u18.trans hx_u19
            have hH_u19 : (fun W' : World => W'.cell? ⟨q, 0, none⟩ = some (.int .i64 (i : Int)) ∧ W'.cell? ⟨q, 1, none⟩ = some (.slice A 18 c) ∧ W'.cell? ⟨q, 2, none⟩ = some (.slice A' h c')) u19 := ⟨(hb_u19.cell hqS).trans c0, (hb_u19.cell hqS).trans c1, (hb_u19.cell hqS).trans c2⟩
            refine hK.out _ _ (Or.inr hH_u19) ?_
            clear hK K hx_u19
            try simp only [Act.put]
            refine wpAnyL_take (i := 10) (f0 := 16) (v := ?_) rfl (by decide +kernel) (by decide +kernel) (by decide +kernel) (by decide +kernel) (by decide +kernel) (fun _ _ _ h => h) (Or.inl ⟨by rfl, ?_⟩) hH_u19 ?_
            rotate_left
            · intro wS hS; obtain ⟨hS1, hS2, hS3⟩ := hS; go_simp; (try with_reducible rfl)
            simp only [Act.put]
            refine wpAnyL_one (i := 12) (by decide +kernel) (by rfl) (fun K hK => ?_)
            rw [if_pos (by rfl)]
            have hZ := OwnL.perm ((hL_u19).rot3) ((List.Perm.swap _ _ _).cons _)
            have hrow := OwnV.row hZ.head
            obtain ⟨z0, z1, z2⟩ := cells3 hrow
            have y0 := frozen_of_row _ nu17 0 _ _ hrow
            have y1 := frozen_of_row _ nu17 1 _ _ hrow
            have y2 := frozen_of_row _ nu17 2 _ _ hrow
            have hgB := (hZ.head.lt (g := nu17) rfl).1
            go_simp
            refine hK.out _ _ (Or.inr ⟨(World.cell?_setCell_far _ _ _ _ (by simp <;> omega)).trans ((World.cell?_setCell_far _ _ _ _ (by simp <;> omega)).trans ((World.cell?_setCell_far _ _ _ _ (by simp <;> omega)).trans hH_u19.1)), (World.cell?_setCell_far _ _ _ _ (by simp <;> omega)).trans ((World.cell?_setCell_far _ _ _ _ (by simp <;> omega)).trans ((World.cell?_setCell_far _ _ _ _ (by simp <;> omega)).trans hH_u19.2.1)), (World.cell?_setCell_far _ _ _ _ (by simp <;> omega)).trans ((World.cell?_setCell_far _ _ _ _ (by simp <;> omega)).trans ((World.cell?_setCell_far _ _ _ _ (by simp <;> omega)).trans hH_u19.2.2))⟩) ?_
            clear hK K
            try simp only [Act.put, List.setIfInBounds_toArray, List.set_cons_zero, List.set_cons_succ]
            refine wpAnyL_done (by decide +kernel) ?_ _
            refine NoPanic.normal ?_
            go_wp2_with fail
            go_meet
            exact ⟨nu17, _, _, _, _, rfl, ((hZ.set 0 _).set 1 _).set 2 _, ((hb_u19.setCell (p := ⟨nu17, 0, none⟩) hgB _).setCell (p := ⟨nu17, 1, none⟩) hgB _).setCell (p := ⟨nu17, 2, none⟩) hgB _⟩
        · rw [if_pos (by rfl)]
          go_simp
          have hx_u20 := Below.news (Below.refl u1.heap.size u1) (.cells #[.int .i64 0, .slice none 0 0, .slice none 0 0] 29)
          have hb_u20 := bnext hb_u1 hx_u20
          have hL_u20 := OwnL.lit hL_u1 hb_u1.size #[.int .i64 0, .slice none 0 0, .slice none 0 0] 29 3 rfl (by unfold maxLen; omega)
          have hH_u20 : (fun W' : World => W'.cell? ⟨q, 0, none⟩ = some (.int .i64 (i : Int)) ∧ W'.cell? ⟨q, 1, none⟩ = some (.slice A 18 c) ∧ W'.cell? ⟨q, 2, none⟩ = some (.slice A' h c')) (u1.alloc (.cells #[.int .i64 0, .slice none 0 0, .slice none 0 0] 29)) := ⟨(hx_u20.cell (block_lt_of_cell hH_u1.1)).trans hH_u1.1, (hx_u20.cell (block_lt_of_cell hH_u1.2.1)).trans hH_u1.2.1, (hx_u20.cell (block_lt_of_cell hH_u1.2.2)).trans hH_u1.2.2⟩
          refine hK.out _ _ (Or.inr hH_u20) ?_
          clear hK K hx_u20
          try simp only [Act.put, List.setIfInBounds_toArray, List.set_cons_zero, List.set_cons_succ]
          generalize hg_u20 : u1.heap.size = nu20 at *
          generalize u1.alloc (.cells #[.int .i64 0, .slice none 0 0, .slice none 0 0] 29) = u20 at *
          refine wpAnyL_two (i := 5) (j := 6) (by decide +kernel) (by rfl) (by rfl) (fun K hK => ?_) (fun K hK => ?_)
          · rw [if_pos (by rfl)]
            refine wp_al (.tmp 73) (.tmp 75) 27 9 _ 16 (by rfl) Tryd.underlying27 strInfo rfl (by omega) wS.heap.size _ _ _ (by rfl) ((hL_u20).swap) A 18 c (SG.map .string) (by rfl) (by rw [List.length_map]; exact hSl.out) (Src.strs (keepS hSs hb_u20)) (by simp only [List.length_nil]; omega) hb_u20.size ?_
            intro v_u21 u21 hL_u21 hx_u21
            rw [List.nil_append] at hL_u21
            obtain ⟨A_u21, d_u21, hv_u21⟩ := OwnV.form hL_u21.head
            rw [List.length_map, hSl.out] at hv_u21
            subst hv_u21
            have hb_u21 := hb_u20.trans hx_u21
            have hH_u21 : (fun W' : World => W'.cell? ⟨q, 0, none⟩ = some (.int .i64 (i : Int)) ∧ W'.cell? ⟨q, 1, none⟩ = some (.slice A 18 c) ∧ W'.cell? ⟨q, 2, none⟩ = some (.slice A' h c')) u21 := ⟨(hb_u21.cell hqS).trans c0, (hb_u21.cell hqS).trans c1, (hb_u21.cell hqS).trans c2⟩
            refine hK.out _ _ (Or.inr hH_u21) ?_
            clear hK K hx_u21
            try simp only [Act.put, List.setIfInBounds_toArray]
            refine wpAnyL_one (i := 6) (by decide +kernel) (by rfl) (fun K hK => ?_)
            rw [if_pos (by rfl)]
            go_simp
            have hx_u22 := Below.news (Below.refl u21.heap.size u21) (.cells #[] 9)
            have hb_u22 := bnext hb_u21 hx_u22
            have hL_u22 := OwnL.lit hL_u21 hb_u21.size #[] 9 0 rfl (by unfold maxLen; omega)
            have hH_u22 : (fun W' : World => W'.cell? ⟨q, 0, none⟩ = some (.int .i64 (i : Int)) ∧ W'.cell? ⟨q, 1, none⟩ = some (.slice A 18 c) ∧ W'.cell? ⟨q, 2, none⟩ = some (.slice A' h c')) (u21.alloc (.cells #[] 9)) := ⟨(hx_u22.cell (block_lt_of_cell hH_u21.1)).trans hH_u21.1, (hx_u22.cell (block_lt_of_cell hH_u21.2.1)).trans hH_u21.2.1, (hx_u22.cell (block_lt_of_cell hH_u21.2.2)).trans hH_u21.2.2⟩
            refine hK.out _ _ (Or.inr hH_u22) ?_
            clear hK K hx_u22
            try simp only [Act.put, List.setIfInBounds_toArray, List.set_cons_zero, List.set_cons_succ]
            generalize hg_u22 : u21.heap.size = nu22 at *
            generalize u21.alloc (.cells #[] 9) = u22 at *
            refine wpAnyL_one (i := 9) (by decide +kernel) (by rfl) (fun K hK => ?_)
            rw [if_pos (by rfl)]
            refine wp_al (.tmp 77) (.tmp 79) 27 9 _ 16 (by rfl) Tryd.underlying27 strInfo rfl (by omega) wS.heap.size _ _ _ (by rfl) (hL_u22) A' h c' (PT.map .string) (by rfl) (by rw [List.length_map]; exact hTl.out) (Src.strs (keepS hTs hb_u22)) (by simp only [List.length_nil]; omega) hb_u22.size ?_
            intro v_u23 u23 hL_u23 hx_u23
            rw [List.nil_append] at hL_u23
            obtain ⟨A_u23, d_u23, hv_u23⟩ := OwnV.form hL_u23.head
            rw [List.length_map, hTl.out] at hv_u23
            subst hv_u23
            have hb_u23 := hb_u22.trans hx_u23
            have hH_u23 : (fun W' : World => W'.cell? ⟨q, 0, none⟩ = some (.int .i64 (i : Int)) ∧ W'.cell? ⟨q, 1, none⟩ = some (.slice A 18 c) ∧ W'.cell? ⟨q, 2, none⟩ = some (.slice A' h c')) u23 := ⟨(hb_u23.cell hqS).trans c0, (hb_u23.cell hqS).trans c1, (hb_u23.cell hqS).trans c2⟩
            refine hK.out _ _ (Or.inr hH_u23) ?_
            clear hK K hx_u23
            try simp only [Act.put, List.setIfInBounds_toArray]
            refine wpAnyL_take (i := 10) (f0 := 16) (v := ?_) rfl (by decide +kernel) (by decide +kernel) (by decide +kernel) (by decide +kernel) (by decide +kernel) (fun _ _ _ h => h) (Or.inl ⟨by rfl, ?_⟩) hH_u23 ?_
            rotate_left
            · intro wS hS; obtain ⟨hS1, hS2, hS3⟩ := hS; go_simp; (try with_reducible rfl)
            simp only [Act.put]
            refine wpAnyL_one (i := 12) (by decide +kernel) (by rfl) (fun K hK => ?_)
            rw [if_pos (by rfl)]
            have hZ := OwnL.perm ((hL_u23).rot3) ((List.Perm.swap _ _ _).cons _)
            have hrow := OwnV.row hZ.head
            obtain ⟨z0, z1, z2⟩ := cells3 hrow
            have y0 := frozen_of_row _ nu20 0 _ _ hrow
            have y1 := frozen_of_row _ nu20 1 _ _ hrow
            have y2 := frozen_of_row _ nu20 2 _ _ hrow
            have hgB := (hZ.head.lt (g := nu20) rfl).1
            go_simp
            refine hK.out _ _ (Or.inr ⟨(World.cell?_setCell_far _ _ _ _ (by simp <;> omega)).trans ((World.cell?_setCell_far _ _ _ _ (by simp <;> omega)).trans ((World.cell?_setCell_far _ _ _ _ (by simp <;> omega)).trans hH_u23.1)), (World.cell?_setCell_far _ _ _ _ (by simp <;> omega)).trans ((World.cell?_setCell_far _ _ _ _ (by simp <;> omega)).trans ((World.cell?_setCell_far _ _ _ _ (by simp <;> omega)).trans hH_u23.2.1)), (World.cell?_setCell_far _ _ _ _ (by simp <;> omega)).trans ((World.cell?_setCell_far _ _ _ _ (by simp <;> omega)).trans ((World.cell?_setCell_far _ _ _ _ (by simp <;> omega)).trans hH_u23.2.2))⟩) ?_
            clear hK K
            try simp only [Act.put, List.setIfInBounds_toArray, List.set_cons_zero, List.set_cons_succ]
            refine wpAnyL_done (by decide +kernel) ?_ _
            refine NoPanic.normal ?_
            go_wp2_with fail
            go_meet
            exact ⟨nu20, _, _, _, _, rfl, ((hZ.set 0 _).set 1 _).set 2 _, ((hb_u23.setCell (p := ⟨nu20, 0, none⟩) hgB _).setCell (p := ⟨nu20, 1, none⟩) hgB _).setCell (p := ⟨nu20, 2, none⟩) hgB _⟩
          · rw [if_pos (by rfl)]
            go_simp
            have hx_u24 := Below.news (Below.refl u20.heap.size u20) (.cells #[] 9)
            have hb_u24 := bnext hb_u20 hx_u24
            have hL_u24 := OwnL.lit hL_u20 hb_u20.size #[] 9 0 rfl (by unfold maxLen; omega)
            have hH_u24 : (fun W' : World => W'.cell? ⟨q, 0, none⟩ = some (.int .i64 (i : Int)) ∧ W'.cell? ⟨q, 1, none⟩ = some (.slice A 18 c) ∧ W'.cell? ⟨q, 2, none⟩ = some (.slice A' h c')) (u20.alloc (.cells #[] 9)) := ⟨(hx_u24.cell (block_lt_of_cell hH_u20.1)).trans hH_u20.1, (hx_u24.cell (block_lt_of_cell hH_u20.2.1)).trans hH_u20.2.1, (hx_u24.cell (block_lt_of_cell hH_u20.2.2)).trans hH_u20.2.2⟩
            refine hK.out _ _ (Or.inr hH_u24) ?_
            clear hK K hx_u24
            try simp only [Act.put, List.setIfInBounds_toArray, List.set_cons_zero, List.set_cons_succ]
            generalize hg_u24 : u20.heap.size = nu24 at *
            generalize u20.alloc (.cells #[] 9) = u24 at *
            refine wpAnyL_one (i := 5) (by decide +kernel) (by rfl) (fun K hK => ?_)
            rw [if_pos (by rfl)]
            refine wp_al (.tmp 73) (.tmp 75) 27 9 _ 16 (by rfl) Tryd.underlying27 strInfo rfl (by omega) wS.heap.size _ _ _ (by rfl) ((hL_u24).rot3) A 18 c (SG.map .string) (by rfl) (by rw [List.length_map]; exact hSl.out) (Src.strs (keepS hSs hb_u24)) (by simp only [List.length_nil]; omega) hb_u24.size ?_
            intro v_u25 u25 hL_u25 hx_u25
            rw [List.nil_append] at hL_u25
            obtain ⟨A_u25, d_u25, hv_u25⟩ := OwnV.form hL_u25.head
            rw [List.length_map, hSl.out] at hv_u25
            subst hv_u25
            have hb_u25 := hb_u24.trans hx_u25
            have hH_u25 : (fun W' : World => W'.cell? ⟨q, 0, none⟩ = some (.int .i64 (i : Int)) ∧ W'.cell? ⟨q, 1, none⟩ = some (.slice A 18 c) ∧ W'.cell? ⟨q, 2, none⟩ = some (.slice A' h c')) u25 := ⟨(hb_u25.cell hqS).trans c0, (hb_u25.cell hqS).trans c1, (hb_u25.cell hqS).trans c2⟩
            refine hK.out _ _ (Or.inr hH_u25) ?_
            clear hK K hx_u25
            try simp only [Act.put, List.setIfInBounds_toArray]
            refine wpAnyL_one (i := 9) (by decide +kernel) (by rfl) (fun K hK => ?_)
            rw [if_pos (by rfl)]
            refine wp_al (.tmp 77) (.tmp 79) 27 9 _ 16 (by rfl) Tryd.underlying27 strInfo rfl (by omega) wS.heap.size _ _ _ (by rfl) ((hL_u25).swap) A' h c' (PT.map .string) (by rfl) (by rw [List.length_map]; exact hTl.out) (Src.strs (keepS hTs hb_u25)) (by simp only [List.length_nil]; omega) hb_u25.size ?_
            intro v_u26 u26 hL_u26 hx_u26
            rw [List.nil_append] at hL_u26
            obtain ⟨A_u26, d_u26, hv_u26⟩ := OwnV.form hL_u26.head
            rw [List.length_map, hTl.out] at hv_u26
            subst hv_u26
            have hb_u26 := hb_u25.trans hx_u26
            have hH_u26 : (fun W' : World => W'.cell? ⟨q, 0, none⟩ = some (.int .i64 (i : Int)) ∧ W'.cell? ⟨q, 1, none⟩ = some (.slice A 18 c) ∧ W'.cell? ⟨q, 2, none⟩ = some (.slice A' h c')) u26 := ⟨(hb_u26.cell hqS).trans c0, (hb_u26.cell hqS).trans c1, (hb_u26.cell hqS).trans c2⟩
            refine hK.out _ _ (Or.inr hH_u26) ?_
            clear hK K hx_u26
            try simp only [Act.put]
            refine wpAnyL_take (i := 10) (f0 := 16) (v := ?_) rfl (by decide +kernel) (by decide +kernel) (by decide +kernel) (by decide +kernel) (by decide +kernel) (fun _ _ _ h => h) (Or.inl ⟨by rfl, ?_⟩) hH_u26 ?_
            rotate_left
            · intro wS hS; obtain ⟨hS1, hS2, hS3⟩ := hS; go_simp; (try with_reducible rfl)
            simp only [Act.put]
            refine wpAnyL_one (i := 12) (by decide +kernel) (by rfl) (fun K hK => ?_)
            rw [if_pos (by rfl)]
            have hZ := OwnL.perm ((hL_u26).rot3) ((List.Perm.swap _ _ _).cons _)
            have hrow := OwnV.row hZ.head
            obtain ⟨z0, z1, z2⟩ := cells3 hrow
            have y0 := frozen_of_row _ nu20 0 _ _ hrow
            have y1 := frozen_of_row _ nu20 1 _ _ hrow
            have y2 := frozen_of_row _ nu20 2 _ _ hrow
            have hgB := (hZ.head.lt (g := nu20) rfl).1
            go_simp
            refine hK.out _ _ (Or.inr ⟨(World.cell?_setCell_far _ _ _ _ (by simp <;> omega)).trans ((World.cell?_setCell_far _ _ _ _ (by simp <;> omega)).trans ((World.cell?_setCell_far _ _ _ _ (by simp <;> omega)).trans hH_u26.1)), (World.cell?_setCell_far _ _ _ _ (by simp <;> omega)).trans ((World.cell?_setCell_far _ _ _ _ (by simp <;> omega)).trans ((World.cell?_setCell_far _ _ _ _ (by simp <;> omega)).trans hH_u26.2.1)), (World.cell?_setCell_far _ _ _ _ (by simp <;> omega)).trans ((World.cell?_setCell_far _ _ _ _ (by simp <;> omega)).trans ((World.cell?_setCell_far _ _ _ _ (by simp <;> omega)).trans hH_u26.2.2))⟩) ?_
            clear hK K
            try simp only [Act.put, List.setIfInBounds_toArray, List.set_cons_zero, List.set_cons_succ]
            refine wpAnyL_done (by decide +kernel) ?_ _
            refine NoPanic.normal ?_
            go_wp2_with fail
            go_meet
            exact ⟨nu20, _, _, _, _, rfl, ((hZ.set 0 _).set 1 _).set 2 _, ((hb_u26.setCell (p := ⟨nu20, 0, none⟩) hgB _).setCell (p := ⟨nu20, 1, none⟩) hgB _).setCell (p := ⟨nu20, 2, none⟩) hgB _⟩
      · rw [if_pos (by rfl)]
        go_simp
        have hx_u27 := Below.news (Below.refl u0.heap.size u0) (.cells #[] 9)
        have hb_u27 := bnext hb_u0 hx_u27
        have hL_u27 := OwnL.lit hL_u0 hb_u0.size #[] 9 0 rfl (by unfold maxLen; omega)
        have hH_u27 : (fun W' : World => W'.cell? ⟨q, 0, none⟩ = some (.int .i64 (i : Int)) ∧ W'.cell? ⟨q, 1, none⟩ = some (.slice A 18 c) ∧ W'.cell? ⟨q, 2, none⟩ = some (.slice A' h c')) (u0.alloc (.cells #[] 9)) := ⟨(hx_u27.cell (block_lt_of_cell hH_u0.1)).trans hH_u0.1, (hx_u27.cell (block_lt_of_cell hH_u0.2.1)).trans hH_u0.2.1, (hx_u27.cell (block_lt_of_cell hH_u0.2.2)).trans hH_u0.2.2⟩
        refine hK.out _ _ (Or.inr hH_u27) ?_
        clear hK K hx_u27
        try simp only [Act.put, List.setIfInBounds_toArray, List.set_cons_zero, List.set_cons_succ]
        generalize hg_u27 : u0.heap.size = nu27 at *
        generalize u0.alloc (.cells #[] 9) = u27 at *
        refine wpAnyL_two (i := 2) (j := 11) (by decide +kernel) (by rfl) (by rfl) (fun K hK => ?_) (fun K hK => ?_)
        · rw [if_pos (by rfl)]
          go_simp
          have hx_u28 := Below.news (Below.refl u27.heap.size u27) (.cells #[] 9)
          have hb_u28 := bnext hb_u27 hx_u28
          have hL_u28 := OwnL.lit hL_u27 hb_u27.size #[] 9 0 rfl (by unfold maxLen; omega)
          have hH_u28 : (fun W' : World => W'.cell? ⟨q, 0, none⟩ = some (.int .i64 (i : Int)) ∧ W'.cell? ⟨q, 1, none⟩ = some (.slice A 18 c) ∧ W'.cell? ⟨q, 2, none⟩ = some (.slice A' h c')) (u27.alloc (.cells #[] 9)) := ⟨(hx_u28.cell (block_lt_of_cell hH_u27.1)).trans hH_u27.1, (hx_u28.cell (block_lt_of_cell hH_u27.2.1)).trans hH_u27.2.1, (hx_u28.cell (block_lt_of_cell hH_u27.2.2)).trans hH_u27.2.2⟩
          refine hK.out _ _ (Or.inr hH_u28) ?_
          clear hK K hx_u28
          try simp only [Act.put, List.setIfInBounds_toArray, List.set_cons_zero, List.set_cons_succ]
          generalize hg_u28 : u27.heap.size = nu28 at *
          generalize u27.alloc (.cells #[] 9) = u28 at *
          refine wpAnyL_two (i := 5) (j := 11) (by decide +kernel) (by rfl) (by rfl) (fun K hK => ?_) (fun K hK => ?_)
          · rw [if_pos (by rfl)]
            refine wp_al (.tmp 73) (.tmp 75) 27 9 _ 16 (by rfl) Tryd.underlying27 strInfo rfl (by omega) wS.heap.size _ _ _ (by rfl) (hL_u28) A 18 c (SG.map .string) (by rfl) (by rw [List.length_map]; exact hSl.out) (Src.strs (keepS hSs hb_u28)) (by simp only [List.length_nil]; omega) hb_u28.size ?_
            intro v_u29 u29 hL_u29 hx_u29
            rw [List.nil_append] at hL_u29
            obtain ⟨A_u29, d_u29, hv_u29⟩ := OwnV.form hL_u29.head
            rw [List.length_map, hSl.out] at hv_u29
            subst hv_u29
            have hb_u29 := hb_u28.trans hx_u29
            have hH_u29 : (fun W' : World => W'.cell? ⟨q, 0, none⟩ = some (.int .i64 (i : Int)) ∧ W'.cell? ⟨q, 1, none⟩ = some (.slice A 18 c) ∧ W'.cell? ⟨q, 2, none⟩ = some (.slice A' h c')) u29 := ⟨(hb_u29.cell hqS).trans c0, (hb_u29.cell hqS).trans c1, (hb_u29.cell hqS).trans c2⟩
            refine hK.out _ _ (Or.inr hH_u29) ?_
            clear hK K hx_u29
            try simp only [Act.put, List.setIfInBounds_toArray]
            refine wpAnyL_two (i := 9) (j := 11) (by decide +kernel) (by rfl) (by rfl) (fun K hK => ?_) (fun K hK => ?_)
            · rw [if_pos (by rfl)]
              refine wp_al (.tmp 77) (.tmp 79) 27 9 _ 16 (by rfl) Tryd.underlying27 strInfo rfl (by omega) wS.heap.size _ _ _ (by rfl) ((hL_u29).swap) A' h c' (PT.map .string) (by rfl) (by rw [List.length_map]; exact hTl.out) (Src.strs (keepS hTs hb_u29)) (by simp only [List.length_nil]; omega) hb_u29.size ?_
              intro v_u30 u30 hL_u30 hx_u30
              rw [List.nil_append] at hL_u30
              obtain ⟨A_u30, d_u30, hv_u30⟩ := OwnV.form hL_u30.head
              rw [List.length_map, hTl.out] at hv_u30
              subst hv_u30
              have hb_u30 := hb_u29.trans hx_u30
              have hH_u30 : (fun W' : World => W'.cell? ⟨q, 0, none⟩ = some (.int .i64 (i : Int)) ∧ W'.cell? ⟨q, 1, none⟩ = some (.slice A 18 c) ∧ W'.cell? ⟨q, 2, none⟩ = some (.slice A' h c')) u30 := ⟨(hb_u30.cell hqS).trans c0, (hb_u30.cell hqS).trans c1, (hb_u30.cell hqS).trans c2⟩
              refine hK.out _ _ (Or.inr hH_u30) ?_
              clear hK K hx_u30
              try simp only [Act.put]
              refine wpAnyL_take (i := 10) (f0 := 16) (v := ?_) rfl (by decide +kernel) (by decide +kernel) (by decide +kernel) (by decide +kernel) (by decide +kernel) (fun _ _ _ h => h) (Or.inl ⟨by rfl, ?_⟩) hH_u30 ?_
              rotate_left
              · intro wS hS; obtain ⟨hS1, hS2, hS3⟩ := hS; go_simp; (try with_reducible rfl)
              simp only [Act.put]
              refine wpAnyL_one (i := 11) (by decide +kernel) (by rfl) (fun K hK => ?_)
              rw [if_pos (by rfl)]
              go_simp
              have hx_u31 := Below.news (Below.refl u30.heap.size u30) (.cells #[.int .i64 0, .slice none 0 0, .slice none 0 0] 29)
              have hb_u31 := bnext hb_u30 hx_u31
              have hL_u31 := OwnL.lit hL_u30 hb_u30.size #[.int .i64 0, .slice none 0 0, .slice none 0 0] 29 3 rfl (by unfold maxLen; omega)
              have hH_u31 : (fun W' : World => W'.cell? ⟨q, 0, none⟩ = some (.int .i64 (i : Int)) ∧ W'.cell? ⟨q, 1, none⟩ = some (.slice A 18 c) ∧ W'.cell? ⟨q, 2, none⟩ = some (.slice A' h c')) (u30.alloc (.cells #[.int .i64 0, .slice none 0 0, .slice none 0 0] 29)) := ⟨(hx_u31.cell (block_lt_of_cell hH_u30.1)).trans hH_u30.1, (hx_u31.cell (block_lt_of_cell hH_u30.2.1)).trans hH_u30.2.1, (hx_u31.cell (block_lt_of_cell hH_u30.2.2)).trans hH_u30.2.2⟩
              refine hK.out _ _ (Or.inr hH_u31) ?_
              clear hK K hx_u31
              try simp only [Act.put, List.setIfInBounds_toArray, List.set_cons_zero, List.set_cons_succ]
              generalize hg_u31 : u30.heap.size = nu31 at *
              generalize u30.alloc (.cells #[.int .i64 0, .slice none 0 0, .slice none 0 0] 29) = u31 at *
              refine wpAnyL_one (i := 12) (by decide +kernel) (by rfl) (fun K hK => ?_)
              rw [if_pos (by rfl)]
              have hZ := OwnL.perm (hL_u31) ((List.Perm.swap _ _ _).cons _)
              have hrow := OwnV.row hZ.head
              obtain ⟨z0, z1, z2⟩ := cells3 hrow
              have y0 := frozen_of_row _ nu31 0 _ _ hrow
              have y1 := frozen_of_row _ nu31 1 _ _ hrow
              have y2 := frozen_of_row _ nu31 2 _ _ hrow
              have hgB := (hZ.head.lt (g := nu31) rfl).1
              go_simp
              refine hK.out _ _ (Or.inr ⟨(World.cell?_setCell_far _ _ _ _ (by simp <;> omega)).trans ((World.cell?_setCell_far _ _ _ _ (by simp <;> omega)).trans ((World.cell?_setCell_far _ _ _ _ (by simp <;> omega)).trans hH_u31.1)), (World.cell?_setCell_far _ _ _ _ (by simp <;> omega)).trans ((World.cell?_setCell_far _ _ _ _ (by simp <;> omega)).trans ((World.cell?_setCell_far _ _ _ _ (by simp <;> omega)).trans hH_u31.2.1)), (World.cell?_setCell_far _ _ _ _ (by simp <;> omega)).trans ((World.cell?_setCell_far _ _ _ _ (by simp <;> omega)).trans ((World.cell?_setCell_far _ _ _ _ (by simp <;> omega)).trans hH_u31.2.2))⟩) ?_
              clear hK K
              try simp only [Act.put, List.setIfInBounds_toArray, List.set_cons_zero, List.set_cons_succ]
              refine wpAnyL_done (by decide +kernel) ?_ _
              refine NoPanic.normal ?_
              go_wp2_with fail
              go_meet
              exact ⟨nu31, _, _, _, _, rfl, ((hZ.set 0 _).set 1 _).set 2 _, ((hb_u31.setCell (p := ⟨nu31, 0, none⟩) hgB _).setCell (p := ⟨nu31, 1, none⟩) hgB _).setCell (p := ⟨nu31, 2, none⟩) hgB _⟩
            · rw [if_pos (by rfl)]
              go_simp
              have hx_u32 := Below.news (Below.refl u29.heap.size u29) (.cells #[.int .i64 0, .slice none 0 0, .slice none 0 0] 29)
              have hb_u32 := bnext hb_u29 hx_u32
              have hL_u32 := OwnL.lit hL_u29 hb_u29.size #[.int .i64 0, .slice none 0 0, .slice none 0 0] 29 3 rfl (by unfold maxLen; omega)
              have hH_u32 : (fun W' : World => W'.cell? ⟨q, 0, none⟩ = some (.int .i64 (i : Int)) ∧ W'.cell? ⟨q, 1, none⟩ = some (.slice A 18 c) ∧ W'.cell? ⟨q, 2, none⟩ = some (.slice A' h c')) (u29.alloc (.cells #[.int .i64 0, .slice none 0 0, .slice none 0 0] 29)) := ⟨(hx_u32.cell (block_lt_of_cell hH_u29.1)).trans hH_u29.1, (hx_u32.cell (block_lt_of_cell hH_u29.2.1)).trans hH_u29.2.1, (hx_u32.cell (block_lt_of_cell hH_u29.2.2)).trans hH_u29.2.2⟩
              refine hK.out _ _ (Or.inr hH_u32) ?_
              clear hK K hx_u32
              try simp only [Act.put, List.setIfInBounds_toArray, List.set_cons_zero, List.set_cons_succ]
              generalize hg_u32 : u29.heap.size = nu32 at *
              generalize u29.alloc (.cells #[.int .i64 0, .slice none 0 0, .slice none 0 0] 29) = u32 at *
              refine wpAnyL_one (i := 9) (by decide +kernel) (by rfl) (fun K hK => ?_)
              rw [if_pos (by rfl)]
              refine wp_al (.tmp 77) (.tmp 79) 27 9 _ 16 (by rfl) Tryd.underlying27 strInfo rfl (by omega) wS.heap.size _ _ _ (by rfl) ((hL_u32).rot3) A' h c' (PT.map .string) (by rfl) (by rw [List.length_map]; exact hTl.out) (Src.strs (keepS hTs hb_u32)) (by simp only [List.length_nil]; omega) hb_u32.size ?_
              intro v_u33 u33 hL_u33 hx_u33
              rw [List.nil_append] at hL_u33
              obtain ⟨A_u33, d_u33, hv_u33⟩ := OwnV.form hL_u33.head
              rw [List.length_map, hTl.out] at hv_u33
              subst hv_u33
              have hb_u33 := hb_u32.trans hx_u33
              have hH_u33 : (fun W' : World => W'.cell? ⟨q, 0, none⟩ = some (.int .i64 (i : Int)) ∧ W'.cell? ⟨q, 1, none⟩ = some (.slice A 18 c) ∧ W'.cell? ⟨q, 2, none⟩ = some (.slice A' h c')) u33 := ⟨(hb_u33.cell hqS).trans c0, (hb_u33.cell hqS).trans c1, (hb_u33.cell hqS).trans c2⟩
              refine hK.out _ _ (Or.inr hH_u33) ?_
              clear hK K hx_u33
              try simp only [Act.put, List.setIfInBounds_toArray]
              refine wpAnyL_take (i := 10) (f0 := 16) (v := ?_) rfl (by decide +kernel) (by decide +kernel) (by decide +kernel) (by decide +kernel) (by decide +kernel) (fun _ _ _ h => h) (Or.inl ⟨by rfl, ?_⟩) hH_u33 ?_
              rotate_left
              · intro wS hS; obtain ⟨hS1, hS2, hS3⟩ := hS; go_simp; (try with_reducible rfl)
              simp only [Act.put]
              refine wpAnyL_one (i := 12) (by decide +kernel) (by rfl) (fun K hK => ?_)
              rw [if_pos (by rfl)]
              have hZ := OwnL.perm ((hL_u33).swap) ((List.Perm.swap _ _ _).cons _)
              have hrow := OwnV.row hZ.head
              obtain ⟨z0, z1, z2⟩ := cells3 hrow
              have y0 := frozen_of_row _ nu32 0 _ _ hrow
              have y1 := frozen_of_row _ nu32 1 _ _ hrow
              have y2 := frozen_of_row _ nu32 2 _ _ hrow
              have hgB := (hZ.head.lt (g := nu32) rfl).1
              go_simp
              refine hK.out _ _ (Or.inr ⟨(World.cell?_setCell_far _ _ _ _ (by simp <;> omega)).trans ((World.cell?_setCell_far _ _ _ _ (by simp <;> omega)).trans ((World.cell?_setCell_far _ _ _ _ (by simp <;> omega)).trans hH_u33.1)), (World.cell?_setCell_far _ _ _ _ (by simp <;> omega)).trans ((World.cell?_setCell_far _ _ _ _ (by simp <;> omega)).trans ((World.cell?_setCell_far _ _ _ _ (by simp <;> omega)).trans hH_u33.2.1)), (World.cell?_setCell_far _ _ _ _ (by simp <;> omega)).trans ((World.cell?_setCell_far _ _ _ _ (by simp <;> omega)).trans ((World.cell?_setCell_far _ _ _ _ (by simp <;> omega)).trans hH_u33.2.2))⟩) ?_
              clear hK K
              try simp only [Act.put, List.setIfInBounds_toArray, List.set_cons_zero, List.set_cons_succ]
              refine wpAnyL_done (by decide +kernel) ?_ _
              refine NoPanic.normal ?_
              go_wp2_with fail
              go_meet
              exact ⟨nu32, _, _, _, _, rfl, ((hZ.set 0 _).set 1 _).set 2 _, ((hb_u33.setCell (p := ⟨nu32, 0, none⟩) hgB _).setCell (p := ⟨nu32, 1, none⟩) hgB _).setCell (p := ⟨nu32, 2, none⟩) hgB _⟩
          · rw [if_pos (by rfl)]
            go_simp
            have hx_u34 := Below.news (Below.refl u28.heap.size u28) (.cells #[.int .i64 0, .slice none 0 0, .slice none 0 0] 29)
            have hb_u34 := bnext hb_u28 hx_u34
            have hL_u34 := OwnL.lit hL_u28 hb_u28.size #[.int .i64 0, .slice none 0 0, .slice none 0 0] 29 3 rfl (by unfold maxLen; omega)
            have hH_u34 : (fun W' : World => W'.cell? ⟨q, 0, none⟩ = some (.int .i64 (i : Int)) ∧ W'.cell? ⟨q, 1, none⟩ = some (.slice A 18 c) ∧ W'.cell? ⟨q, 2, none⟩ = some (.slice A' h c')) (u28.alloc (.cells #[.int .i64 0, .slice none 0 0, .slice none 0 0] 29)) := ⟨(hx_u34.cell (block_lt_of_cell hH_u28.1)).trans hH_u28.1, (hx_u34.cell (block_lt_of_cell hH_u28.2.1)).trans hH_u28.2.1, (hx_u34.cell (block_lt_of_cell hH_u28.2.2)).trans hH_u28.2.2⟩
            refine hK.out _ _ (Or.inr hH_u34) ?_
            clear hK K hx_u34
            try simp only [Act.put, List.setIfInBounds_toArray, List.set_cons_zero, List.set_cons_succ]
            generalize hg_u34 : u28.heap.size = nu34 at *
            generalize u28.alloc (.cells #[.int .i64 0, .slice none 0 0, .slice none 0 0] 29) = u34 at *
            refine wpAnyL_one (i := 5) (by decide +kernel) (by rfl) (fun K hK => ?_)
            rw [if_pos (by rfl)]
            refine wp_al (.tmp 73) (.tmp 75) 27 9 _ 16 (by rfl) Tryd.underlying27 strInfo rfl (by omega) wS.heap.size _ _ _ (by rfl) ((hL_u34).swap) A 18 c (SG.map .string) (by rfl) (by rw [List.length_map]; exact hSl.out) (Src.strs (keepS hSs hb_u34)) (by simp only [List.length_nil]; omega) hb_u34.size ?_
            intro v_u35 u35 hL_u35 hx_u35
            rw [List.nil_append] at hL_u35
            obtain ⟨A_u35, d_u35, hv_u35⟩ := OwnV.form hL_u35.head
            rw [List.length_map, hSl.out] at hv_u35
            subst hv_u35
            have hb_u35 := hb_u34.trans hx_u35
            have hH_u35 : (fun W' : World => W'.cell? ⟨q, 0, none⟩ = some (.int .i64 (i : Int)) ∧ W'.cell? ⟨q, 1, none⟩ = some (.slice A 18 c) ∧ W'.cell? ⟨q, 2, none⟩ = some (.slice A' h c')) u35 := ⟨(hb_u35.cell hqS).trans c0, (hb_u35.cell hqS).trans c1, (hb_u35.cell hqS).trans c2⟩
            refine hK.out _ _ (Or.inr hH_u35) ?_
            clear hK K hx_u35
            try simp only [Act.put, List.setIfInBounds_toArray]
            refine wpAnyL_one (i := 9) (by decide +kernel) (by rfl) (fun K hK => ?_)
            rw [if_pos (by rfl)]
            refine wp_al (.tmp 77) (.tmp 79) 27 9 _ 16 (by rfl) Tryd.underlying27 strInfo rfl (by omega) wS.heap.size _ _ _ (by rfl) ((hL_u35).rot3) A' h c' (PT.map .string) (by rfl) (by rw [List.length_map]; exact hTl.out) (Src.strs (keepS hTs hb_u35)) (by simp only [List.length_nil]; omega) hb_u35.size ?_
            intro v_u36 u36 hL_u36 hx_u36
            rw [List.nil_append] at hL_u36
            obtain ⟨A_u36, d_u36, hv_u36⟩ := OwnV.form hL_u36.head
            rw [List.length_map, hTl.out] at hv_u36
            subst hv_u36
            have hb_u36 := hb_u35.trans hx_u36
            have hH_u36 : (fun W' : World => W'.cell? ⟨q, 0, none⟩ = some (.int .i64 (i : Int)) ∧ W'.cell? ⟨q, 1, none⟩ = some (.slice A 18 c) ∧ W'.cell? ⟨q, 2, none⟩ = some (.slice A' h c')) u36 := ⟨(hb_u36.cell hqS).trans c0, (hb_u36.cell hqS).trans c1, (hb_u36.cell hqS).trans c2⟩
            refine hK.out _ _ (Or.inr hH_u36) ?_
            clear hK K hx_u36
            try simp only [Act.put]
            refine wpAnyL_take (i := 10) (f0 := 16) (v := ?_) rfl (by decide +kernel) (by decide +kernel) (by decide +kernel) (by decide +kernel) (by decide +kernel) (fun _ _ _ h => h) (Or.inl ⟨by rfl, ?_⟩) hH_u36 ?_
            rotate_left
            · intro wS hS; obtain ⟨hS1, hS2, hS3⟩ := hS; go_simp; (try with_reducible rfl)
            simp only [Act.put]
            refine wpAnyL_one (i := 12) (by decide +kernel) (by rfl) (fun K hK => ?_)
            rw [if_pos (by rfl)]
            have hZ := OwnL.perm ((hL_u36).rot3) ((List.Perm.swap _ _ _).cons _)
            have hrow := OwnV.row hZ.head
            obtain ⟨z0, z1, z2⟩ := cells3 hrow
            have y0 := frozen_of_row _ nu34 0 _ _ hrow
            have y1 := frozen_of_row _ nu34 1 _ _ hrow
            have y2 := frozen_of_row _ nu34 2 _ _ hrow
            have hgB := (hZ.head.lt (g := nu34) rfl).1
            go_simp
            refine hK.out _ _ (Or.inr ⟨(World.cell?_setCell_far _ _ _ _ (by simp <;> omega)).trans ((World.cell?_setCell_far _ _ _ _ (by simp <;> omega)).trans ((World.cell?_setCell_far _ _ _ _ (by simp <;> omega)).trans hH_u36.1)), (World.cell?_setCell_far _ _ _ _ (by simp <;> omega)).trans ((World.cell?_setCell_far _ _ _ _ (by simp <;> omega)).trans ((World.cell?_setCell_far _ _ _ _ (by simp <;> omega)).trans hH_u36.2.1)), (World.cell?_setCell_far _ _ _ _ (by simp <;> omega)).trans ((World.cell?_setCell_far _ _ _ _ (by simp <;> omega)).trans ((World.cell?_setCell_far _ _ _ _ (by simp <;> omega)).trans hH_u36.2.2))⟩) ?_
            clear hK K
            try simp only [Act.put, List.setIfInBounds_toArray, List.set_cons_zero, List.set_cons_succ]
            refine wpAnyL_done (by decide +kernel) ?_ _
            refine NoPanic.normal ?_
            go_wp2_with fail
            go_meet
            exact ⟨nu34, _, _, _, _, rfl, ((hZ.set 0 _).set 1 _).set 2 _, ((hb_u36.setCell (p := ⟨nu34, 0, none⟩) hgB _).setCell (p := ⟨nu34, 1, none⟩) hgB _).setCell (p := ⟨nu34, 2, none⟩) hgB _⟩
        · rw [if_pos (by rfl)]
          go_simp
          have hx_u37 := Below.news (Below.refl u27.heap.size u27) (.cells #[.int .i64 0, .slice none 0 0, .slice none 0 0] 29)
          have hb_u37 := bnext hb_u27 hx_u37
          have hL_u37 := OwnL.lit hL_u27 hb_u27.size #[.int .i64 0, .slice none 0 0, .slice none 0 0] 29 3 rfl (by unfold maxLen; omega)
          have hH_u37 : (fun W' : World => W'.cell? ⟨q, 0, none⟩ = some (.int .i64 (i : Int)) ∧ W'.cell? ⟨q, 1, none⟩ = some (.slice A 18 c) ∧ W'.cell? ⟨q, 2, none⟩ = some (.slice A' h c')) (u27.alloc (.cells #[.int .i64 0, .slice none 0 0, .slice none 0 0] 29)) := ⟨(hx_u37.cell (block_lt_of_cell hH_u27.1)).trans hH_u27.1, (hx_u37.cell (block_lt_of_cell hH_u27.2.1)).trans hH_u27.2.1, (hx_u37.cell (block_lt_of_cell hH_u27.2.2)).trans hH_u27.2.2⟩
          refine hK.out _ _ (Or.inr hH_u37) ?_
          clear hK K hx_u37
          try simp only [Act.put, List.setIfInBounds_toArray, List.set_cons_zero, List.set_cons_succ]
          generalize hg_u37 : u27.heap.size = nu37 at *
          generalize u27.alloc (.cells #[.int .i64 0, .slice none 0 0, .slice none 0 0] 29) = u37 at *
          refine wpAnyL_one (i := 2) (by decide +kernel) (by rfl) (fun K hK => ?_)
          rw [if_pos (by rfl)]
          go_simp
          have hx_u38 := Below.news (Below.refl u37.heap.size u37) (.cells #[] 9)
          have hb_u38 := bnext hb_u37 hx_u38
          have hL_u38 := OwnL.lit hL_u37 hb_u37.size #[] 9 0 rfl (by unfold maxLen; omega)
          have hH_u38 : (fun W' : World => W'.cell? ⟨q, 0, none⟩ = some (.int .i64 (i : Int)) ∧ W'.cell? ⟨q, 1, none⟩ = some (.slice A 18 c) ∧ W'.cell? ⟨q, 2, none⟩ = some (.slice A' h c')) (u37.alloc (.cells #[] 9)) := ⟨(hx_u38.cell (block_lt_of_cell hH_u37.1)).trans hH_u37.1, (hx_u38.cell (block_lt_of_cell hH_u37.2.1)).trans hH_u37.2.1, (hx_u38.cell (block_lt_of_cell hH_u37.2.2)).trans hH_u37.2.2⟩
          refine hK.out _ _ (Or.inr hH_u38) ?_
          clear hK K hx_u38
          try simp only [Act.put, List.setIfInBounds_toArray, List.set_cons_zero, List.set_cons_succ]
          generalize hg_u38 : u37.heap.size = nu38 at *
          generalize u37.alloc (.cells #[] 9) = u38 at *
          refine wpAnyL_one (i := 5) (by decide +kernel) (by rfl) (fun K hK => ?_)
          rw [if_pos (by rfl)]
          refine wp_al (.tmp 73) (.tmp 75) 27 9 _ 16 (by rfl) Tryd.underlying27 strInfo rfl (by omega) wS.heap.size _ _ _ (by rfl) (hL_u38) A 18 c (SG.map .string) (by rfl) (by rw [List.length_map]; exact hSl.out) (Src.strs (keepS hSs hb_u38)) (by simp only [List.length_nil]; omega) hb_u38.size ?_
          intro v_u39 u39 hL_u39 hx_u39
          rw [List.nil_append] at hL_u39
          obtain ⟨A_u39, d_u39, hv_u39⟩ := OwnV.form hL_u39.head
          rw [List.length_map, hSl.out] at hv_u39
          subst hv_u39
          have hb_u39 := hb_u38.trans hx_u39
          have hH_u39 : (fun W' : World => W'.cell? ⟨q, 0, none⟩ = some (.int .i64 (i : Int)) ∧ W'.cell? ⟨q, 1, none⟩ = some (.slice A 18 c) ∧ W'.cell? ⟨q, 2, none⟩ = some (.slice A' h c')) u39 := ⟨(hb_u39.cell hqS).trans c0, (hb_u39.cell hqS).trans c1, (hb_u39.cell hqS).trans c2⟩
          refine hK.out _ _ (Or.inr hH_u39) ?_
          clear hK K hx_u39
          try simp only [Act.put, List.setIfInBounds_toArray]
          refine wpAnyL_one (i := 9) (by decide +kernel) (by rfl) (fun K hK => ?_)
          rw [if_pos (by rfl)]
          refine wp_al (.tmp 77) (.tmp 79) 27 9 _ 16 (by rfl) Tryd.underlying27 strInfo rfl (by omega) wS.heap.size _ _ _ (by rfl) ((hL_u39).rot3) A' h c' (PT.map .string) (by rfl) (by rw [List.length_map]; exact hTl.out) (Src.strs (keepS hTs hb_u39)) (by simp only [List.length_nil]; omega) hb_u39.size ?_
          intro v_u40 u40 hL_u40 hx_u40
          rw [List.nil_append] at hL_u40
          obtain ⟨A_u40, d_u40, hv_u40⟩ := OwnV.form hL_u40.head
          rw [List.length_map, hTl.out] at hv_u40
          subst hv_u40
          have hb_u40 := hb_u39.trans hx_u40
          have hH_u40 : (fun W' : World => W'.cell? ⟨q, 0, none⟩ = some (.int .i64 (i : Int)) ∧ W'.cell? ⟨q, 1, none⟩ = some (.slice A 18 c) ∧ W'.cell? ⟨q, 2, none⟩ = some (.slice A' h c')) u40 := ⟨(hb_u40.cell hqS).trans c0, (hb_u40.cell hqS).trans c1, (hb_u40.cell hqS).trans c2⟩
          refine hK.out _ _ (Or.inr hH_u40) ?_
          clear hK K hx_u40
          try simp only [Act.put]
          refine wpAnyL_take (i := 10) (f0 := 16) (v := ?_) rfl (by decide +kernel) (by decide +kernel) (by decide +kernel) (by decide +kernel) (by decide +kernel) (fun _ _ _ h => h) (Or.inl ⟨by rfl, ?_⟩) hH_u40 ?_
          rotate_left
          · intro wS hS; obtain ⟨hS1, hS2, hS3⟩ := hS; go_simp; (try with_reducible rfl)
          simp only [Act.put]
          refine wpAnyL_one (i := 12) (by decide +kernel) (by rfl) (fun K hK => ?_)
          rw [if_pos (by rfl)]
          have hZ := OwnL.perm ((hL_u40).rot3) ((List.Perm.swap _ _ _).cons _)
          have hrow := OwnV.row hZ.head
          obtain ⟨z0, z1, z2⟩ := cells3 hrow
          have y0 := frozen_of_row _ nu37 0 _ _ hrow
          have y1 := frozen_of_row _ nu37 1 _ _ hrow
          have y2 := frozen_of_row _ nu37 2 _ _ hrow
          have hgB := (hZ.head.lt (g := nu37) rfl).1
          go_simp
          refine hK.out _ _ (Or.inr ⟨(World.cell?_setCell_far _ _ _ _ (by simp <;> omega)).trans ((World.cell?_setCell_far _ _ _ _ (by simp <;> omega)).trans ((World.cell?_setCell_far _ _ _ _ (by simp <;> omega)).trans hH_u40.1)), (World.cell?_setCell_far _ _ _ _ (by simp <;> omega)).trans ((World.cell?_setCell_far _ _ _ _ (by simp <;> omega)).trans ((World.cell?_setCell_far _ _ _ _ (by simp <;> omega)).trans hH_u40.2.1)), (World.cell?_setCell_far _ _ _ _ (by simp <;> omega)).trans ((World.cell?_setCell_far _ _ _ _ (by simp <;> omega)).trans ((World.cell?_setCell_far _ _ _ _ (by simp <;> omega)).trans hH_u40.2.2))⟩) ?_
          clear hK K
          try simp only [Act.put, List.setIfInBounds_toArray, List.set_cons_zero, List.set_cons_succ]
          refine wpAnyL_done (by decide +kernel) ?_ _
          refine NoPanic.normal ?_
          go_wp2_with fail
          go_meet
          exact ⟨nu37, _, _, _, _, rfl, ((hZ.set 0 _).set 1 _).set 2 _, ((hb_u40.setCell (p := ⟨nu37, 0, none⟩) hgB _).setCell (p := ⟨nu37, 1, none⟩) hgB _).setCell (p := ⟨nu37, 2, none⟩) hgB _⟩
      · rw [if_pos (by rfl)]
        go_simp
        have hx_u41 := Below.news (Below.refl u0.heap.size u0) (.cells #[.int .i64 0, .slice none 0 0, .slice none 0 0] 29)
        have hb_u41 := bnext hb_u0 hx_u41
        have hL_u41 := OwnL.lit hL_u0 hb_u0.size #[.int .i64 0, .slice none 0 0, .slice none 0 0] 29 3 rfl (by unfold maxLen; omega)
        have hH_u41 : (fun W' : World => W'.cell? ⟨q, 0, none⟩ = some (.int .i64 (i : Int)) ∧ W'.cell? ⟨q, 1, none⟩ = some (.slice A 18 c) ∧ W'.cell? ⟨q, 2, none⟩ = some (.slice A' h c')) (u0.alloc (.cells #[.int .i64 0, .slice none 0 0, .slice none 0 0] 29)) := ⟨(hx_u41.cell (block_lt_of_cell hH_u0.1)).trans hH_u0.1, (hx_u41.cell (block_lt_of_cell hH_u0.2.1)).trans hH_u0.2.1, (hx_u41.cell (block_lt_of_cell hH_u0.2.2)).trans hH_u0.2.2⟩
        refine hK.out _ _ (Or.inr hH_u41) ?_
        clear hK K hx_u41
        try simp only [Act.put, List.setIfInBounds_toArray, List.set_cons_zero, List.set_cons_succ]
        generalize hg_u41 : u0.heap.size = nu41 at *
        generalize u0.alloc (.cells #[.int .i64 0, .slice none 0 0, .slice none 0 0] 29) = u41 at *
        refine wpAnyL_two (i := 2) (j := 6) (by decide +kernel) (by rfl) (by rfl) (fun K hK => ?_) (fun K hK => ?_)
        · rw [if_pos (by rfl)]
          go_simp
          have hx_u42 := Below.news (Below.refl u41.heap.size u41) (.cells #[] 9)
          have hb_u42 := bnext hb_u41 hx_u42
          have hL_u42 := OwnL.lit hL_u41 hb_u41.size #[] 9 0 rfl (by unfold maxLen; omega)
          have hH_u42 : (fun W' : World => W'.cell? ⟨q, 0, none⟩ = some (.int .i64 (i : Int)) ∧ W'.cell? ⟨q, 1, none⟩ = some (.slice A 18 c) ∧ W'.cell? ⟨q, 2, none⟩ = some (.slice A' h c')) (u41.alloc (.cells #[] 9)) := ⟨(hx_u42.cell (block_lt_of_cell hH_u41.1)).trans hH_u41.1, (hx_u42.cell (block_lt_of_cell hH_u41.2.1)).trans hH_u41.2.1, (hx_u42.cell (block_lt_of_cell hH_u41.2.2)).trans hH_u41.2.2⟩
          refine hK.out _ _ (Or.inr hH_u42) ?_
          clear hK K hx_u42
          try simp only [Act.put, List.setIfInBounds_toArray, List.set_cons_zero, List.set_cons_succ]
          generalize hg_u42 : u41.heap.size = nu42 at *
          generalize u41.alloc (.cells #[] 9) = u42 at *
          refine wpAnyL_two (i := 5) (j := 6) (by decide +kernel) (by rfl) (by rfl) (fun K hK => ?_) (fun K hK => ?_)
          · rw [if_pos (by rfl)]
            refine wp_al (.tmp 73) (.tmp 75) 27 9 _ 16 (by rfl) Tryd.underlying27 strInfo rfl (by omega) wS.heap.size _ _ _ (by rfl) (hL_u42) A 18 c (SG.map .string) (by rfl) (by rw [List.length_map]; exact hSl.out) (Src.strs (keepS hSs hb_u42)) (by simp only [List.length_nil]; omega) hb_u42.size ?_
            intro v_u43 u43 hL_u43 hx_u43
            rw [List.nil_append] at hL_u43
            obtain ⟨A_u43, d_u43, hv_u43⟩ := OwnV.form hL_u43.head
            rw [List.length_map, hSl.out] at hv_u43
            subst hv_u43
            have hb_u43 := hb_u42.trans hx_u43
            have hH_u43 : (fun W' : World => W'.cell? ⟨q, 0, none⟩ = some (.int .i64 (i : Int)) ∧ W'.cell? ⟨q, 1, none⟩ = some (.slice A 18 c) ∧ W'.cell? ⟨q, 2, none⟩ = some (.slice A' h c')) u43 := ⟨(hb_u43.cell hqS).trans c0, (hb_u43.cell hqS).trans c1, (hb_u43.cell hqS).trans c2⟩
            refine hK.out _ _ (Or.inr hH_u43) ?_
            clear hK K hx_u43
            try simp only [Act.put, List.setIfInBounds_toArray]
            refine wpAnyL_one (i := 6) (by decide +kernel) (by rfl) (fun K hK => ?_)
            rw [if_pos (by rfl)]
            go_simp
            have hx_u44 := Below.news (Below.refl u43.heap.size u43) (.cells #[] 9)
            have hb_u44 := bnext hb_u43 hx_u44
            have hL_u44 := OwnL.lit hL_u43 hb_u43.size #[] 9 0 rfl (by unfold maxLen; omega)
            have hH_u44 : (fun W' : World => W'.cell? ⟨q, 0, none⟩ = some (.int .i64 (i : Int)) ∧ W'.cell? ⟨q, 1, none⟩ = some (.slice A 18 c) ∧ W'.cell? ⟨q, 2, none⟩ = some (.slice A' h c')) (u43.alloc (.cells #[] 9)) := ⟨(hx_u44.cell (block_lt_of_cell hH_u43.1)).trans hH_u43.1, (hx_u44.cell (block_lt_of_cell hH_u43.2.1)).trans hH_u43.2.1, (hx_u44.cell (block_lt_of_cell hH_u43.2.2)).trans hH_u43.2.2⟩
            refine hK.out _ _ (Or.inr hH_u44) ?_
            clear hK K hx_u44
            try simp only [Act.put, List.setIfInBounds_toArray, List.set_cons_zero, List.set_cons_succ]
            generalize hg_u44 : u43.heap.size = nu44 at *
            generalize u43.alloc (.cells #[] 9) = u44 at *
            refine wpAnyL_one (i := 9) (by decide +kernel) (by rfl) (fun K hK => ?_)
            rw [if_pos (by rfl)]
            refine wp_al (.tmp 77) (.tmp 79) 27 9 _ 16 (by rfl) Tryd.underlying27 strInfo rfl (by omega) wS.heap.size _ _ _ (by rfl) (hL_u44) A' h c' (PT.map .string) (by rfl) (by rw [List.length_map]; exact hTl.out) (Src.strs (keepS hTs hb_u44)) (by simp only [List.length_nil]; omega) hb_u44.size ?_
            intro v_u45 u45 hL_u45 hx_u45
            rw [List.nil_append] at hL_u45
            obtain ⟨A_u45, d_u45, hv_u45⟩ := OwnV.form hL_u45.head
            rw [List.length_map, hTl.out] at hv_u45
            subst hv_u45
            have hb_u45 := hb_u44.trans hx_u45
            have hH_u45 : (fun W' : World => W'.cell? ⟨q, 0, none⟩ = some (.int .i64 (i : Int)) ∧ W'.cell? ⟨q, 1, none⟩ = some (.slice A 18 c) ∧ W'.cell? ⟨q, 2, none⟩ = some (.slice A' h c')) u45 := ⟨(hb_u45.cell hqS).trans c0, (hb_u45.cell hqS).trans c1, (hb_u45.cell hqS).trans c2⟩
            refine hK.out _ _ (Or.inr hH_u45) ?_
            clear hK K hx_u45
            try simp only [Act.put, List.setIfInBounds_toArray]
            refine wpAnyL_take (i := 10) (f0 := 16) (v := ?_) rfl (by decide +kernel) (by decide +kernel) (by decide +kernel) (by decide +kernel) (by decide +kernel) (fun _ _ _ h => h) (Or.inl ⟨by rfl, ?_⟩) hH_u45 ?_
            rotate_left
            · intro wS hS; obtain ⟨hS1, hS2, hS3⟩ := hS; go_simp; (try with_reducible rfl)
            simp only [Act.put]
            refine wpAnyL_one (i := 12) (by decide +kernel) (by rfl) (fun K hK => ?_)
            rw [if_pos (by rfl)]
            have hZ := OwnL.perm ((hL_u45).rot3) ((List.Perm.swap _ _ _).cons _)
            have hrow := OwnV.row hZ.head
            obtain ⟨z0, z1, z2⟩ := cells3 hrow
            have y0 := frozen_of_row _ nu41 0 _ _ hrow
            have y1 := frozen_of_row _ nu41 1 _ _ hrow
            have y2 := frozen_of_row _ nu41 2 _ _ hrow
            have hgB := (hZ.head.lt (g := nu41) rfl).1
            go_simp
            refine hK.out _ _ (Or.inr ⟨(World.cell?_setCell_far _ _ _ _ (by simp <;> omega)).trans ((World.cell?_setCell_far _ _ _ _ (by simp <;> omega)).trans ((World.cell?_setCell_far _ _ _ _ (by simp <;> omega)).trans hH_u45.1)), (World.cell?_setCell_far _ _ _ _ (by simp <;> omega)).trans ((World.cell?_setCell_far _ _ _ _ (by simp <;> omega)).trans ((World.cell?_setCell_far _ _ _ _ (by simp <;> omega)).trans hH_u45.2.1)), (World.cell?_setCell_far _ _ _ _ (by simp <;> omega)).trans ((World.cell?_setCell_far _ _ _ _ (by simp <;> omega)).trans ((World.cell?_setCell_far _ _ _ _ (by simp <;> omega)).trans hH_u45.2.2))⟩) ?_
            clear hK K
            try simp only [Act.put, List.setIfInBounds_toArray, List.set_cons_zero, List.set_cons_succ]
            refine wpAnyL_done (by decide +kernel) ?_ _
            refine NoPanic.normal ?_
            go_wp2_with fail
            go_meet
            exact ⟨nu41, _, _, _, _, rfl, ((hZ.set 0 _).set 1 _).set 2 _, ((hb_u45.setCell (p := ⟨nu41, 0, none⟩) hgB _).setCell (p := ⟨nu41, 1, none⟩) hgB _).setCell (p := ⟨nu41, 2, none⟩) hgB _⟩
          · rw [if_pos (by rfl)]
            go_simp
            have hx_u46 := Below.news (Below.refl u42.heap.size u42) (.cells #[] 9)
            have hb_u46 := bnext hb_u42 hx_u46
            have hL_u46 := OwnL.lit hL_u42 hb_u42.size #[] 9 0 rfl (by unfold maxLen; omega)
            have hH_u46 : (fun W' : World => W'.cell? ⟨q, 0, none⟩ = some (.int .i64 (i : Int)) ∧ W'.cell? ⟨q, 1, none⟩ = some (.slice A 18 c) ∧ W'.cell? ⟨q, 2, none⟩ = some (.slice A' h c')) (u42.alloc (.cells #[] 9)) := ⟨(hx_u46.cell (block_lt_of_cell hH_u42.1)).trans hH_u42.1, (hx_u46.cell (block_lt_of_cell hH_u42.2.1)).trans hH_u42.2.1, (hx_u46.cell (block_lt_of_cell hH_u42.2.2)).trans hH_u42.2.2⟩
            refine hK.out _ _ (Or.inr hH_u46) ?_
            clear hK K hx_u46
            try simp only [Act.put, List.setIfInBounds_toArray, List.set_cons_zero, List.set_cons_succ]
            generalize hg_u46 : u42.heap.size = nu46 at *
            generalize u42.alloc (.cells #[] 9) = u46 at *
            refine wpAnyL_one (i := 5) (by decide +kernel) (by rfl) (fun K hK => ?_)
            rw [if_pos (by rfl)]
            refine wp_al (.tmp 73) (.tmp 75) 27 9 _ 16 (by rfl) Tryd.underlying27 strInfo rfl (by omega) wS.heap.size _ _ _ (by rfl) ((hL_u46).swap) A 18 c (SG.map .string) (by rfl) (by rw [List.length_map]; exact hSl.out) (Src.strs (keepS hSs hb_u46)) (by simp only [List.length_nil]; omega) hb_u46.size ?_
            intro v_u47 u47 hL_u47 hx_u47
            rw [List.nil_append] at hL_u47
            obtain ⟨A_u47, d_u47, hv_u47⟩ := OwnV.form hL_u47.head
            rw [List.length_map, hSl.out] at hv_u47
            subst hv_u47
            have hb_u47 := hb_u46.trans hx_u47
            have hH_u47 : (fun W' : World => W'.cell? ⟨q, 0, none⟩ = some (.int .i64 (i : Int)) ∧ W'.cell? ⟨q, 1, none⟩ = some (.slice A 18 c) ∧ W'.cell? ⟨q, 2, none⟩ = some (.slice A' h c')) u47 := ⟨(hb_u47.cell hqS).trans c0, (hb_u47.cell hqS).trans c1, (hb_u47.cell hqS).trans c2⟩
            refine hK.out _ _ (Or.inr hH_u47) ?_
            clear hK K hx_u47
            try simp only [Act.put, List.setIfInBounds_toArray]
            refine wpAnyL_one (i := 9) (by decide +kernel) (by rfl) (fun K hK => ?_)
            rw [if_pos (by rfl)]
            refine wp_al (.tmp 77) (.tmp 79) 27 9 _ 16 (by rfl) Tryd.underlying27 strInfo rfl (by omega) wS.heap.size _ _ _ (by rfl) ((hL_u47).swap) A' h c' (PT.map .string) (by rfl) (by rw [List.length_map]; exact hTl.out) (Src.strs (keepS hTs hb_u47)) (by simp only [List.length_nil]; omega) hb_u47.size ?_
            intro v_u48 u48 hL_u48 hx_u48
            rw [List.nil_append] at hL_u48
            obtain ⟨A_u48, d_u48, hv_u48⟩ := OwnV.form hL_u48.head
            rw [List.length_map, hTl.out] at hv_u48
            subst hv_u48
            have hb_u48 := hb_u47.trans hx_u48
            have hH_u48 : (fun W' : World => W'.cell? ⟨q, 0, none⟩ = some (.int .i64 (i : Int)) ∧ W'.cell? ⟨q, 1, none⟩ = some (.slice A 18 c) ∧ W'.cell? ⟨q, 2, none⟩ = some (.slice A' h c')) u48 := ⟨(hb_u48.cell hqS).trans c0, (hb_u48.cell hqS).trans c1, (hb_u48.cell hqS).trans c2⟩
            refine hK.out _ _ (Or.inr hH_u48) ?_
            clear hK K hx_u48
            try simp only [Act.put]
            refine wpAnyL_take (i := 10) (f0 := 16) (v := ?_) rfl (by decide +kernel) (by decide +kernel) (by decide +kernel) (by decide +kernel) (by decide +kernel) (fun _ _ _ h => h) (Or.inl ⟨by rfl, ?_⟩) hH_u48 ?_
            rotate_left
            · intro wS hS; obtain ⟨hS1, hS2, hS3⟩ := hS; go_simp; (try with_reducible rfl)
            simp only [Act.put]
            refine wpAnyL_one (i := 12) (by decide +kernel) (by rfl) (fun K hK => ?_)
            rw [if_pos (by rfl)]
            have hZ := OwnL.perm ((hL_u48).rot3) ((List.Perm.swap _ _ _).cons _)
            have hrow := OwnV.row hZ.head
            obtain ⟨z0, z1, z2⟩ := cells3 hrow
            have y0 := frozen_of_row _ nu41 0 _ _ hrow
            have y1 := frozen_of_row _ nu41 1 _ _ hrow
            have y2 := frozen_of_row _ nu41 2 _ _ hrow
            have hgB := (hZ.head.lt (g := nu41) rfl).1
            go_simp
            refine hK.out _ _ (Or.inr ⟨(World.cell?_setCell_far _ _ _ _ (by simp <;> omega)).trans ((World.cell?_setCell_far _ _ _ _ (by simp <;> omega)).trans ((World.cell?_setCell_far _ _ _ _ (by simp <;> omega)).trans hH_u48.1)), (World.cell?_setCell_far _ _ _ _ (by simp <;> omega)).trans ((World.cell?_setCell_far _ _ _ _ (by simp <;> omega)).trans ((World.cell?_setCell_far _ _ _ _ (by simp <;> omega)).trans hH_u48.2.1)), (World.cell?_setCell_far _ _ _ _ (by simp <;> omega)).trans ((World.cell?_setCell_far _ _ _ _ (by simp <;> omega)).trans ((World.cell?_setCell_far _ _ _ _ (by simp <;> omega)).trans hH_u48.2.2))⟩) ?_
            clear hK K
            try simp only [Act.put, List.setIfInBounds_toArray, List.set_cons_zero, List.set_cons_succ]
            refine wpAnyL_done (by decide +kernel) ?_ _
            refine NoPanic.normal ?_
            go_wp2_with fail
            go_meet
            exact ⟨nu41, _, _, _, _, rfl, ((hZ.set 0 _).set 1 _).set 2 _, ((hb_u48.setCell (p := ⟨nu41, 0, none⟩) hgB _).setCell (p := ⟨nu41, 1, none⟩) hgB _).setCell (p := ⟨nu41, 2, none⟩) hgB _⟩
        · rw [if_pos (by rfl)]
          go_simp
          have hx_u49 := Below.news (Below.refl u41.heap.size u41) (.cells #[] 9)
          have hb_u49 := bnext hb_u41 hx_u49
          have hL_u49 := OwnL.lit hL_u41 hb_u41.size #[] 9 0 rfl (by unfold maxLen; omega)
          have hH_u49 : (fun W' : World => W'.cell? ⟨q, 0, none⟩ = some (.int .i64 (i : Int)) ∧ W'.cell? ⟨q, 1, none⟩ = some (.slice A 18 c) ∧ W'.cell? ⟨q, 2, none⟩ = some (.slice A' h c')) (u41.alloc (.cells #[] 9)) := ⟨(hx_u49.cell (block_lt_of_cell hH_u41.1)).trans hH_u41.1, (hx_u49.cell (block_lt_of_cell hH_u41.2.1)).trans hH_u41.2.1, (hx_u49.cell (block_lt_of_cell hH_u41.2.2)).trans hH_u41.2.2⟩
          refine hK.out _ _ (Or.inr hH_u49) ?_
          clear hK K hx_u49
          try simp only [Act.put, List.setIfInBounds_toArray, List.set_cons_zero, List.set_cons_succ]
          generalize hg_u49 : u41.heap.size = nu49 at *
          generalize u41.alloc (.cells #[] 9) = u49 at *
          refine wpAnyL_one (i := 2) (by decide +kernel) (by rfl) (fun K hK => ?_)
          rw [if_pos (by rfl)]
          go_simp
          have hx_u50 := Below.news (Below.refl u49.heap.size u49) (.cells #[] 9)
          have hb_u50 := bnext hb_u49 hx_u50
          have hL_u50 := OwnL.lit hL_u49 hb_u49.size #[] 9 0 rfl (by unfold maxLen; omega)
          have hH_u50 : (fun W' : World => W'.cell? ⟨q, 0, none⟩ = some (.int .i64 (i : Int)) ∧ W'.cell? ⟨q, 1, none⟩ = some (.slice A 18 c) ∧ W'.cell? ⟨q, 2, none⟩ = some (.slice A' h c')) (u49.alloc (.cells #[] 9)) := ⟨(hx_u50.cell (block_lt_of_cell hH_u49.1)).trans hH_u49.1, (hx_u50.cell (block_lt_of_cell hH_u49.2.1)).trans hH_u49.2.1, (hx_u50.cell (block_lt_of_cell hH_u49.2.2)).trans hH_u49.2.2⟩
          refine hK.out _ _ (Or.inr hH_u50) ?_
          clear hK K hx_u50
          try simp only [Act.put, List.setIfInBounds_toArray, List.set_cons_zero, List.set_cons_succ]
          generalize hg_u50 : u49.heap.size = nu50 at *
          generalize u49.alloc (.cells #[] 9) = u50 at *
          refine wpAnyL_one (i := 5) (by decide +kernel) (by rfl) (fun K hK => ?_)
          rw [if_pos (by rfl)]
          refine wp_al (.tmp 73) (.tmp 75) 27 9 _ 16 (by rfl) Tryd.underlying27 strInfo rfl (by omega) wS.heap.size _ _ _ (by rfl) (hL_u50) A 18 c (SG.map .string) (by rfl) (by rw [List.length_map]; exact hSl.out) (Src.strs (keepS hSs hb_u50)) (by simp only [List.length_nil]; omega) hb_u50.size ?_
          intro v_u51 u51 hL_u51 hx_u51
          rw [List.nil_append] at hL_u51
          obtain ⟨A_u51, d_u51, hv_u51⟩ := OwnV.form hL_u51.head
          rw [List.length_map, hSl.out] at hv_u51
          subst hv_u51
          have hb_u51 := hb_u50.trans hx_u51
          have hH_u51 : (fun W' : World => W'.cell? ⟨q, 0, none⟩ = some (.int .i64 (i : Int)) ∧ W'.cell? ⟨q, 1, none⟩ = some (.slice A 18 c) ∧ W'.cell? ⟨q, 2, none⟩ = some (.slice A' h c')) u51 := ⟨(hb_u51.cell hqS).trans c0, (hb_u51.cell hqS).trans c1, (hb_u51.cell hqS).trans c2⟩
          refine hK.out _ _ (Or.inr hH_u51) ?_
          clear hK K hx_u51
          try simp only [Act.put, List.setIfInBounds_toArray]
          refine wpAnyL_one (i := 9) (by decide +kernel) (by rfl) (fun K hK => ?_)
          rw [if_pos (by rfl)]
          refine wp_al (.tmp 77) (.tmp 79) 27 9 _ 16 (by rfl) Tryd.underlying27 strInfo rfl (by omega) wS.heap.size _ _ _ (by rfl) ((hL_u51).swap) A' h c' (PT.map .string) (by rfl) (by rw [List.length_map]; exact hTl.out) (Src.strs (keepS hTs hb_u51)) (by simp only [List.length_nil]; omega) hb_u51.size ?_
          intro v_u52 u52 hL_u52 hx_u52
          rw [List.nil_append] at hL_u52
          obtain ⟨A_u52, d_u52, hv_u52⟩ := OwnV.form hL_u52.head
          rw [List.length_map, hTl.out] at hv_u52
          subst hv_u52
          have hb_u52 := hb_u51.trans hx_u52
          have hH_u52 : (fun W' : World => W'.cell? ⟨q, 0, none⟩ = some (.int .i64 (i : Int)) ∧ W'.cell? ⟨q, 1, none⟩ = some (.slice A 18 c) ∧ W'.cell? ⟨q, 2, none⟩ = some (.slice A' h c')) u52 := ⟨(hb_u52.cell hqS).trans c0, (hb_u52.cell hqS).trans c1, (hb_u52.cell hqS).trans c2⟩
          refine hK.out _ _ (Or.inr hH_u52) ?_
          clear hK K hx_u52
          try simp only [Act.put]
          refine wpAnyL_take (i := 10) (f0 := 16) (v := ?_) rfl (by decide +kernel) (by decide +kernel) (by decide +kernel) (by decide +kernel) (by decide +kernel) (fun _ _ _ h => h) (Or.inl ⟨by rfl, ?_⟩) hH_u52 ?_
          rotate_left
          · intro wS hS; obtain ⟨hS1, hS2, hS3⟩ := hS; go_simp; (try with_reducible rfl)
          simp only [Act.put]
          refine wpAnyL_one (i := 12) (by decide +kernel) (by rfl) (fun K hK => ?_)
          rw [if_pos (by rfl)]
          have hZ := OwnL.perm ((hL_u52).rot3) ((List.Perm.swap _ _ _).cons _)
          have hrow := OwnV.row hZ.head
          obtain ⟨z0, z1, z2⟩ := cells3 hrow
          have y0 := frozen_of_row _ nu41 0 _ _ hrow
          have y1 := frozen_of_row _ nu41 1 _ _ hrow
          have y2 := frozen_of_row _ nu41 2 _ _ hrow
          have hgB := (hZ.head.lt (g := nu41) rfl).1
          go_simp
          refine hK.out _ _ (Or.inr ⟨(World.cell?_setCell_far _ _ _ _ (by simp <;> omega)).trans ((World.cell?_setCell_far _ _ _ _ (by simp <;> omega)).trans ((World.cell?_setCell_far _ _ _ _ (by simp <;> omega)).trans hH_u52.1)), (World.cell?_setCell_far _ _ _ _ (by simp <;> omega)).trans ((World.cell?_setCell_far _ _ _ _ (by simp <;> omega)).trans ((World.cell?_setCell_far _ _ _ _ (by simp <;> omega)).trans hH_u52.2.1)), (World.cell?_setCell_far _ _ _ _ (by simp <;> omega)).trans ((World.cell?_setCell_far _ _ _ _ (by simp <;> omega)).trans ((World.cell?_setCell_far _ _ _ _ (by simp <;> omega)).trans hH_u52.2.2))⟩) ?_
          clear hK K
          try simp only [Act.put, List.setIfInBounds_toArray, List.set_cons_zero, List.set_cons_succ]
          refine wpAnyL_done (by decide +kernel) ?_ _
          refine NoPanic.normal ?_
          go_wp2_with fail
          go_meet
          exact ⟨nu41, _, _, _, _, rfl, ((hZ.set 0 _).set 1 _).set 2 _, ((hb_u52.setCell (p := ⟨nu41, 0, none⟩) hgB _).setCell (p := ⟨nu41, 1, none⟩) hgB _).setCell (p := ⟨nu41, 2, none⟩) hgB _⟩
    case rest =>
      obtain ⟨g, A1, d1, A2, d2, rfl, hL, hbx⟩ := hcut
      obtain ⟨k, hk⟩ : ∃ k : Nat, r3 % (19 + h) = k := ⟨_, rfl⟩
      have hk1 : k < 19 + h := by rw [← hk]; exact Nat.mod_lt _ (by omega)
      have e3 : (r3 : Int) % (19 + (h : Int)) = (k : Int) := by rw [← hk]; push_cast; rfl
      clear hk
      have zSG : ∀ s ∈ SG, s.size ≤ 1073741824 := fun s hs => Nat.le_trans (hSz.out s hs) (by decide)
      have zPT : ∀ s ∈ PT, s.size ≤ 1073741824 := fun s hs => Nat.le_trans (hTz.out s hs) (by decide)
      have ZSG := hide zSG; have ZPT := hide zPT; clear zSG zPT
      have hgB := (hL.head.lt (g := g) rfl)
      go_upto_if 88 with (fail)
      simp only [e3]
      clear e3
      go_cut [] from 87 to 110 (fun wx => ∃ (j : Nat) (SG2 PT2 : List ByteArray), OwnL wx wS.heap.size [(.slice (some ⟨g, 0, none⟩) 3 3, 29, [.int .i64 (j : Nat), .slice A1 18 d1, .slice A2 h d2]), (.slice A1 18 d1, 9, SG2.map .string), (.slice A2 h d2, 9, PT2.map .string)] ∧ (SG2.length = 18 ∧ PT2.length = h ∧ (j = i ∨ SG2 = SG) ∧ j < n ∧ j ≤ 300 ∧ (∀ s ∈ SG2, s.size ≤ 1073741824) ∧ ∀ s ∈ PT2, s.size ≤ 1073741824) ∧ Below wS.heap.size wS wx)
      case first =>
        obtain ⟨z0, z1, z2⟩ := cells3 (OwnV.row hL.head)
        by_cases k18 : k < 18
        · have k1 : (k : Int) < 18 := by omega
          obtain ⟨g1, d1x, hv1, hg1, hg1x⟩ := OwnS.full (l := SG) hL.tail.headS (by rw [hSl.out]; decide)
          rw [hSl.out] at hv1
          injection hv1 with hv1 _ hv2
          subst hv1; subst hv2
          obtain ⟨s0, hs0⟩ : ∃ s0, SG[k]? = some s0 := ⟨_, List.getElem?_eq_getElem (by rw [hSl.out]; exact k18)⟩
          have hck := OwnS.getc (l := SG) hL.tail.headS k s0 hs0
          clear hs0
          have frz := OwnS.frz (l := SG) hL.tail.headS k
          have hL2 := (OwnL.setS (l := SG) hL.swap k x).swap
          have hb2 := hbx.setCell (p := ⟨g1, k, none⟩) hg1 (.string x)
          go_wp2_with fail
          go_meet
          exact ⟨i, SG.set k x, PT, hL2, ⟨by rw [List.length_set]; exact hSl.out, hTl.out, Or.inl rfl, hin, by omega, fun s hs => by rcases List.mem_or_eq_of_mem_set hs with h | rfl; exact ZSG.out s h; omega, ZPT.out⟩, hb2⟩
        · by_cases kh : k < 18 + h
          · have k1 : ¬ (k : Int) < 18 := by omega
            have k2 : (k : Int) < 18 + (h : Int) := by omega
            obtain ⟨j, hj⟩ : ∃ j : Nat, k = 18 + j := ⟨k - 18, by omega⟩
            have k3 : (k : Int) - 18 = (j : Int) := by omega
            have k4 : j < h := by omega
            clear hj
            obtain ⟨g1, d1x, hv1, hg1, hg1x⟩ := OwnS.full (l := PT) hL.tail.tail.headS (by rw [hTl.out]; omega)
            rw [hTl.out] at hv1
            injection hv1 with hv1 _ hv2
            subst hv1; subst hv2
            obtain ⟨s0, hs0⟩ : ∃ s0, PT[j]? = some s0 := ⟨_, List.getElem?_eq_getElem (by rw [hTl.out]; exact k4)⟩
            have hck := OwnS.getc (l := PT) hL.tail.tail.headS j s0 hs0
            clear hs0
            have frz := OwnS.frz (l := PT) hL.tail.tail.headS j
            have hL2 := (OwnL.setS (l := PT) hL.rot3 j x).rot3'
            have hb2 := hbx.setCell (p := ⟨g1, j, none⟩) hg1 (.string x)
            go_wp2_with fail
            go_meet
            exact ⟨i, SG, PT.set j x, hL2, ⟨hSl.out, by rw [List.length_set]; exact hTl.out, Or.inl rfl, hin, by omega, ZSG.out, fun s hs => by rcases List.mem_or_eq_of_mem_set hs with h | rfl; exact ZPT.out s h; omega⟩, hb2⟩
          · have k1 : ¬ (k : Int) < 18 := by omega
            have k2 : ¬ (k : Int) < 18 + (h : Int) := by omega
            obtain ⟨j, hj⟩ : ∃ j : Nat, (i + 1) % n = j := ⟨_, rfl⟩
            have jn : j < n := by rw [← hj]; exact Nat.mod_lt _ (Nat.lt_of_lt_of_le Nat.zero_lt_one hp1)
            have k3 : ((i : Int) + 1) % (n : Int) = (j : Int) := by rw [← hj]; push_cast; rfl
            clear hj
            obtain ⟨X, k4, k5⟩ : ∃ X : Int, IntKind.i64.wrap ((i : Int) + 1) = X ∧ X.tmod (n : Int) = (j : Int) := ⟨(i : Int) + 1, IntWalk.i64_in _ (by omega), by rw [Int.tmod_eq_emod_of_nonneg (by omega)]; exact k3⟩
            have k6 : ¬ n = 0 := by omega
            clear k3
            have hqS : q < wS.heap.size := block_lt_of_cell c0
            have hq0 := (hbx.cell (p := ⟨q, 0, none⟩) hqS).trans c0
            have frz := frozen_of_row _ g 0 _ _ (OwnV.row hL.head)
            have hL2 := OwnL.set hL 0 (.int .i64 (j : Nat))
            simp only [List.set_cons_zero] at hL2
            have hb2 := hbx.setCell (p := ⟨g, 0, none⟩) hgB.1 (.int .i64 (j : Nat))
            go_wp2_with fail
            have hmx : Tryd.prog.follows .mixedOrders = true := by kernel_rfl
            have hHeld : (fun W : World => W.cell? ⟨q, 0, none⟩ = some (.int .i64 (i : Int)) ∧ W.frozen? ⟨g, 0, none⟩ = false) wc.drew := ⟨hq0, frz⟩
            refine wp_region_noPanic ?_
            refine wp_region_L (fun W : World => W.cell? ⟨q, 0, none⟩ = some (.int .i64 (i : Int)) ∧ W.frozen? ⟨g, 0, none⟩ = false) 7 hmx ?_
            refine wpAnyL_take (i := 0) (f0 := 10) (v := ?_) rfl (by decide +kernel) (by decide +kernel) (by decide +kernel) (by decide +kernel) (by decide +kernel) (fun _ _ _ h => h) (Or.inl ⟨by rfl, ?_⟩) hHeld ?_
            rotate_left
            · intro wS hS; obtain ⟨hS1, hS2⟩ := hS; go_simp; (try with_reducible rfl)
            simp only [Act.put, List.setIfInBounds_toArray]
            refine wpAnyL_take (i := 1) (f0 := 10) (v := ?_) rfl (by decide +kernel) (by decide +kernel) (by decide +kernel) (by decide +kernel) (by decide +kernel) (fun _ _ _ h => h) (Or.inl ⟨by rfl, ?_⟩) hHeld ?_
            rotate_left
            · intro wS hS; obtain ⟨hS1, hS2⟩ := hS; go_simp; (try with_reducible rfl)
            simp only [Act.put]
            refine wpAnyL_take (i := 2) (f0 := 10) (v := ?_) rfl (by decide +kernel) (by decide +kernel) (by decide +kernel) (by decide +kernel) (by decide +kernel) (fun _ _ _ h => h) (Or.inl ⟨by rfl, ?_⟩) hHeld ?_
            rotate_left
            · intro wS hS; obtain ⟨hS1, hS2⟩ := hS; go_simp; (try with_reducible rfl)
            simp only [Act.put]
            refine wpAnyL_take (i := 3) (f0 := 10) (v := ?_) rfl (by decide +kernel) (by decide +kernel) (by decide +kernel) (by decide +kernel) (by decide +kernel) (fun _ _ _ h => h) (Or.inl ⟨by rfl, ?_⟩) hHeld ?_
            rotate_left
            · intro wS hS; obtain ⟨hS1, hS2⟩ := hS; go_simp; (try with_reducible rfl)
            simp only [Act.put]
            refine wpAnyL_take (i := 4) (f0 := 10) (v := ?_) rfl (by decide +kernel) (by decide +kernel) (by decide +kernel) (by decide +kernel) (by decide +kernel) (fun _ _ _ h => h) (Or.inl ⟨by rfl, ?_⟩) hHeld ?_
            rotate_left
            · intro wS hS; obtain ⟨hS1, hS2⟩ := hS; go_simp; (try with_reducible rfl)
            simp only [Act.put]
            refine wpAnyL_take (i := 5) (f0 := 10) (v := .int .i64 (j : Int)) rfl (by decide +kernel) (by decide +kernel) (by decide +kernel) (by decide +kernel) (by decide +kernel) (fun _ _ _ h => h) (Or.inl ⟨by rfl, ?_⟩) hHeld ?_
            · intro wS hS; obtain ⟨hS1, hS2⟩ := hS; go_simp; (try with_reducible rfl)
            simp only [Act.put]
            refine wpAnyL_take (i := 6) (f0 := 10) (v := ?_) rfl (by decide +kernel) (by decide +kernel) (by decide +kernel) (by decide +kernel) (by decide +kernel) (fun _ _ _ h => h) (Or.inl ⟨by rfl, ?_⟩) hHeld ?_
            rotate_left
            · intro wS hS; obtain ⟨hS1, hS2⟩ := hS; go_simp; (try with_reducible rfl)
            simp only [Act.put]
            refine wpAnyL_one (i := 7) (by decide +kernel) (by rfl) (fun K hK => ?_)
            rw [if_pos (by rfl)]
            go_simp
            refine hK.out _ _ (Or.inl (by decide +kernel)) ?_
            clear hK K
            try simp only [Act.put, List.setIfInBounds_toArray, List.set_cons_zero, List.set_cons_succ]
            refine wpAnyL_done (by decide +kernel) ?_ _
            refine NoPanic.normal ?_
            go_wp2_with fail
            go_meet
            exact ⟨j, SG, PT, OwnL.drew2 hL2, ⟨hSl.out, hTl.out, Or.inr rfl, jn, by omega, ZSG.out, ZPT.out⟩, hb2.drew⟩
      case rest =>
        obtain ⟨j, SG2, PT2, hL, ⟨l2, k2, hji, hjn, j300, z2s, z2p⟩, hbx2⟩ := hcut
        have hjn2 : j < n := by omega
        have hqS : q < wS.heap.size := block_lt_of_cell c0
        have y0 := (hbx2.cell (p := ⟨q, 0, none⟩) hqS).trans c0
        have y1 := (hbx2.cell (p := ⟨q, 1, none⟩) hqS).trans c1
        have y2 := (hbx2.cell (p := ⟨q, 2, none⟩) hqS).trans c2
        have hSw := keepS hSs hbx2
        have hTw := keepS hTs hbx2
        have hew := hes.next hbx2
        have hbw := bnext hbs hbx2
        have hrow := OwnV.row hL.head
        obtain ⟨z0, z1, z2⟩ := cells3 hrow
        obtain ⟨B1, e1, hv1, hc1, hS2⟩ := OwnS.strs (l := SG2) hL.tail.headS
        rw [l2] at hv1 hc1
        injection hv1 with hv1 _ hv2
        subst hv1; subst hv2
        obtain ⟨B2, e2, hv1, hc2, hT2⟩ := OwnS.strs (l := PT2) hL.tail.tail.headS
        rw [k2] at hv1 hc2
        injection hv1 with hv1 _ hv2
        subst hv1; subst hv2
        have L2 := hide l2; have K2 := hide k2; have Z2s := hide z2s; have Z2p := hide z2p; clear l2 k2 z2s z2p
        have hgw : g < wc.heap.size := (hL.head.lt (g := g) rfl).2
        have hqw : q < wc.heap.size := Nat.lt_of_lt_of_le hqS hbx2.size
        clear hL hSs hTs hes hbs
        go_wp2_with fail
        cases hsm : sameS (j : Int) (i : Int) SG2 SG PT2 PT with
        | true =>
          refine (rsame3_of j i A1 A A2 A' d1 c d2 c' 18 18 h h SG2 SG PT2 PT true hsm _ L2.out hSl.out K2.out hTl.out (by omega) (by omega) (by omega) (by omega) hS2 hSw hT2 hTw).mono ?_
          rintro e w7 ⟨rfl, hb7⟩
          go_wp2
          go_ret
          exact ⟨rfl, bnext hbw hb7⟩
        | false =>
          have hsm' := hide hsm; clear hsm
          refine (rsame3_of j i A1 A A2 A' d1 c d2 c' 18 18 h h SG2 SG PT2 PT false hsm'.out _ L2.out hSl.out K2.out hTl.out (by omega) (by omega) (by omega) (by omega) hS2 hSw hT2 hTw).mono ?_
          rintro e w7 ⟨rfl, hb7⟩
          have hrow7 := row_next hrow hb7
          obtain ⟨x0, x1, x2⟩ := cells3 hrow7
          have hS7 := keepS hS2 hb7
          have hT7 := keepS hT2 hb7
          have he7 := hew.next hb7
          have hb7' := bnext hbw hb7
          clear y0 y1 y2 z0 z1 z2 hrow hb7 hS2 hT2 hSw hTw
          go_wp2_with fail
          cases hv : verifyB P m j SG2 PT2 with
          | false =>
            refine (verify_of P m j A1 A2 18 h d1 d2 SG2 PT2 _ he7 (by omega) L2.out Z2s.out hS7 K2.out Z2p.out hT7 hc1 false hv).mono ?_
            rintro e w8 ⟨rfl, hb8⟩
            go_wp2
            go_ret
            exact ⟨rfl, bnext hb7' hb8⟩
          | true =>
            obtain ⟨v1, v2, v3, v4, v5, v6, _⟩ := (verifyB_iff _ _ _ _ _).1 hv
            have hpl := changes_plain s m h h3 i j SG2 PT2 SG PT HSG.out HPT.out (by omega) (by rw [HN.out]; exact hin) (by rw [HN.out]; exact hjn2) hji hsm'.out (by rw [HP.out]; exact hv)
            have HV := hide hv; clear hv v6 v1 v2 v5
            have hS16 := hide (isB_16 v3); have hT16 := hide (isB_16 v4); clear v3 v4 hji
            refine (verify_of P m j A1 A2 18 h d1 d2 SG2 PT2 _ he7 (by omega) L2.out Z2s.out hS7 K2.out Z2p.out hT7 hc1 true HV.out).mono ?_
            rintro e w8 ⟨rfl, hb8⟩
            obtain ⟨c0, c1, c2⟩ := cells3 (row_next hrow7 hb8)
            have hS5 := keepS hS7 hb8
            have hS5' := keepS hT7 hb8
            have hb := bnext hb7' hb8
            clear x0 x1 x2 hrow7 hb8 hS7 hT7
            have l1 := made_len s h 15 h3 (by decide)
            have z1 := hide (made_size s (by omega) h 15)
            have l2 := checked_len m j SG2 PT2
            have z2 := hide (checked_size m j SG2 PT2 hS16.out hT16.out)
            rw [K2.out] at l2
            have k1 := fun W => made_any s h 15 (by omega) (by omega) (by decide) (by decide) W
            have k2 := fun (W : World) (hSW : Strs W W.heap.size A1 SG2) (hSW' : Strs W W.heap.size A2 PT2) => checked_any m j A1 A2 d1 d2 h SG2 PT2 W (by omega) (by omega) L2.out hS16.out hSW K2.out (by omega) hT16.out hSW'
            generalize Dg.made s h 15 = M1 at *
            generalize Dg.checked m j SG2 PT2 = M2 at *
            have K1 := hide k1; have K3 := hide k2; clear k1 k2
            have mz := hide (mem_app z1.out z2.out)
            have hshown := hide hpl; clear hpl
            go_wp2
            have hmx : Tryd.prog.follows .mixedOrders = true := by kernel_rfl
            have hHeld : (fun W' : World => W'.cell? ⟨g, 0, none⟩ = some (.int .i64 (j : Int)) ∧ W'.cell? ⟨g, 1, none⟩ = some (.slice A1 18 d1) ∧ W'.cell? ⟨g, 2, none⟩ = some (.slice A2 h d2)) w8.drew := ⟨c0, c1, c2⟩
            have hgW : g < w8.heap.size := block_lt_of_cell c0
            refine wp_region_noPanic ?_
            refine wp_region_L (fun W' : World => W'.cell? ⟨g, 0, none⟩ = some (.int .i64 (j : Int)) ∧ W'.cell? ⟨g, 1, none⟩ = some (.slice A1 18 d1) ∧ W'.cell? ⟨g, 2, none⟩ = some (.slice A2 h d2)) 12 hmx ?_
            refine wpAnyL_take (i := 0) (f0 := 14) (v := ?_) rfl (by decide +kernel) (by decide +kernel) (by decide +kernel) (by decide +kernel) (by decide +kernel) (fun _ _ _ h => h) (Or.inl ⟨by rfl, ?_⟩) hHeld ?_
            rotate_left
            · intro wS hS; obtain ⟨hS1, hS2, hS3⟩ := hS; go_simp; (try with_reducible rfl)
            simp only [Act.put, List.setIfInBounds_toArray]
            refine wpAnyL_take (i := 1) (f0 := 14) (v := ?_) rfl (by decide +kernel) (by decide +kernel) (by decide +kernel) (by decide +kernel) (by decide +kernel) (fun _ _ _ h => h) (Or.inl ⟨by rfl, ?_⟩) hHeld ?_
            rotate_left
            · intro wS hS; obtain ⟨hS1, hS2, hS3⟩ := hS; go_simp; (try with_reducible rfl)
            simp only [Act.put]
            refine wpAnyL_take (i := 2) (f0 := 14) (v := ?_) rfl (by decide +kernel) (by decide +kernel) (by decide +kernel) (by decide +kernel) (by decide +kernel) (fun _ _ _ h => h) (Or.inl ⟨by rfl, ?_⟩) hHeld ?_
            rotate_left
            · intro wS hS; obtain ⟨hS1, hS2, hS3⟩ := hS; go_simp; (try with_reducible rfl)
            simp only [Act.put]
            refine wpAnyL_take (i := 3) (f0 := 14) (v := ?_) rfl (by decide +kernel) (by decide +kernel) (by decide +kernel) (by decide +kernel) (by decide +kernel) (fun _ _ _ h => h) (Or.inl ⟨by rfl, ?_⟩) hHeld ?_
            rotate_left
            · intro wS hS; obtain ⟨hS1, hS2, hS3⟩ := hS; go_simp; (try with_reducible rfl)
            simp only [Act.put]
            refine wpAnyL_take (i := 5) (f0 := 14) (v := ?_) rfl (by decide +kernel) (by decide +kernel) (by decide +kernel) (by decide +kernel) (by decide +kernel) (fun _ _ _ h => h) (Or.inl ⟨by rfl, ?_⟩) hHeld ?_
            rotate_left
            · intro wS hS; obtain ⟨hS1, hS2, hS3⟩ := hS; go_simp; (try with_reducible rfl)
            simp only [Act.put]
            refine wpAnyL_take (i := 6) (f0 := 14) (v := ?_) rfl (by decide +kernel) (by decide +kernel) (by decide +kernel) (by decide +kernel) (by decide +kernel) (fun _ _ _ h => h) (Or.inl ⟨by rfl, ?_⟩) hHeld ?_
            rotate_left
            · intro wS hS; obtain ⟨hS1, hS2, hS3⟩ := hS; go_simp; (try with_reducible rfl)
            simp only [Act.put]
            refine wpAnyL_one (i := 4) (by decide +kernel) (by rfl) (fun K hK => ?_)
            rw [if_pos (by rfl)]
            go_simp
            refine (K1.out _).mono ?_
            rintro e wa ⟨⟨v1, rfl, hO1⟩, hba⟩
            have hsa : w8.heap.size ≤ wa.heap.size := hba.size
            have hX : (fun W' : World => W'.cell? ⟨g, 0, none⟩ = some (.int .i64 (j : Int)) ∧ W'.cell? ⟨g, 1, none⟩ = some (.slice A1 18 d1) ∧ W'.cell? ⟨g, 2, none⟩ = some (.slice A2 h d2)) wa := ⟨(hba.cell (by simp <;> omega)).trans hHeld.1, (hba.cell (by simp <;> omega)).trans hHeld.2.1, (hba.cell (by simp <;> omega)).trans hHeld.2.2⟩
            clear hHeld
            have hHeld := hX; clear hX
            obtain ⟨g1, c1', rfl, hg1, hg1'⟩ := hO1.full (by omega)
            refine hK.out _ _ (Or.inr hHeld) ?_
            clear hK K
            try simp only [Act.put, List.setIfInBounds_toArray, List.set_cons_zero, List.set_cons_succ]
            refine wpAnyL_one (i := 7) (by decide +kernel) (by rfl) (fun K hK => ?_)
            rw [if_pos (by rfl)]
            go_simp
            refine (K3.out wa (keepS hS5 (below_undrew hba)) (keepS hS5' (below_undrew hba))).mono ?_
            rintro e wb ⟨⟨v2, rfl, hO2⟩, hbb⟩
            have hsb := hbb.size
            have hX : (fun W' : World => W'.cell? ⟨g, 0, none⟩ = some (.int .i64 (j : Int)) ∧ W'.cell? ⟨g, 1, none⟩ = some (.slice A1 18 d1) ∧ W'.cell? ⟨g, 2, none⟩ = some (.slice A2 h d2)) wb := ⟨(hbb.cell (by simp <;> omega)).trans hHeld.1, (hbb.cell (by simp <;> omega)).trans hHeld.2.1, (hbb.cell (by simp <;> omega)).trans hHeld.2.2⟩
            clear hHeld
            have hHeld := hX; clear hX
            have hO1' := hO1.below hbb
            obtain ⟨A2z, c2z, rfl, hc2z, hS2z⟩ := hO2.strs
            refine hK.out _ _ (Or.inr hHeld) ?_
            clear hK K
            try simp only [Act.put, List.setIfInBounds_toArray, List.set_cons_zero, List.set_cons_succ]
            have hLz : OwnL wb w8.heap.size [sR (.slice (some ⟨g1, 0, none⟩) M1.length c1') M1] := ⟨fun r hr => by rw [List.mem_singleton.1 hr]; exact hO1', List.pairwise_singleton _ _⟩
            refine wpAnyL_one (i := 8) (by decide +kernel) (by rfl) (fun K hK => ?_)
            rw [if_pos (by rfl)]
            refine wp_al (.tmp 126) (.tmp 129) 27 9 _ 16 (by rfl) Tryd.underlying27 strInfo rfl (by omega) w8.heap.size _ _ _ (by rfl) hLz A2z M2.length c2z (M2.map .string) (by rfl) (by rw [List.length_map]) (Src.strs hS2z) (by rw [List.length_map]; omega) (by omega) ?_
            intro v8 wc hL8 hb8
            rw [← List.map_append] at hL8
            obtain ⟨A8, c8, hv8, hc8, hS8⟩ := OwnL.strs1 (l := M1 ++ M2) hL8
            rw [List.length_append] at hv8
            subst hv8
            have hsc := hb8.size
            have hX : (fun W' : World => W'.cell? ⟨g, 0, none⟩ = some (.int .i64 (j : Int)) ∧ W'.cell? ⟨g, 1, none⟩ = some (.slice A1 18 d1) ∧ W'.cell? ⟨g, 2, none⟩ = some (.slice A2 h d2)) wc := ⟨(hb8.cell (by simp <;> omega)).trans hHeld.1, (hb8.cell (by simp <;> omega)).trans hHeld.2.1, (hb8.cell (by simp <;> omega)).trans hHeld.2.2⟩
            clear hHeld
            have hHeld := hX; clear hX
            refine hK.out _ _ (Or.inr hHeld) ?_
            clear hK K
            try simp only [Act.put, List.setIfInBounds_toArray]
            refine wpAnyL_one (i := 9) (by decide +kernel) (by rfl) (fun K hK => ?_)
            rw [if_pos (by rfl)]
            go_simp
            refine (shown_any A8 c8 (M1.length + M2.length) (M1 ++ M2) wc List.length_append (by omega) mz.out hS8 hshown.out).mono ?_
            rintro e wd ⟨rfl, hbd⟩
            have hX : (fun W' : World => W'.cell? ⟨g, 0, none⟩ = some (.int .i64 (j : Int)) ∧ W'.cell? ⟨g, 1, none⟩ = some (.slice A1 18 d1) ∧ W'.cell? ⟨g, 2, none⟩ = some (.slice A2 h d2)) wd := ⟨(hbd.cell (by simp <;> omega)).trans hHeld.1, (hbd.cell (by simp <;> omega)).trans hHeld.2.1, (hbd.cell (by simp <;> omega)).trans hHeld.2.2⟩
            clear hHeld
            have hHeld := hX; clear hX
            refine hK.out _ _ (Or.inr hHeld) ?_
            clear hK K
            try simp only [Act.put, List.setIfInBounds_toArray, List.set_cons_zero, List.set_cons_succ]
            refine wpAnyL_take (i := 10) (f0 := 14) (v := ?_) rfl (by decide +kernel) (by decide +kernel) (by decide +kernel) (by decide +kernel) (by decide +kernel) (fun _ _ _ h => h) (Or.inl ⟨by rfl, ?_⟩) hHeld ?_
            rotate_left
            · intro wS hS; obtain ⟨hS1, hS2, hS3⟩ := hS; go_simp; (try with_reducible rfl)
            simp only [Act.put, List.setIfInBounds_toArray]
            refine wpAnyL_take (i := 11) (f0 := 14) (v := ?_) rfl (by decide +kernel) (by decide +kernel) (by decide +kernel) (by decide +kernel) (by decide +kernel) (fun _ _ _ h => h) (Or.inl ⟨by rfl, ?_⟩) hHeld ?_
            rotate_left
            · intro wS hS; obtain ⟨hS1, hS2, hS3⟩ := hS; go_simp; (try with_reducible rfl)
            simp only [Act.put]
            refine wpAnyL_done (by decide +kernel) ?_ _
            refine NoPanic.normal ?_
            go_wp2
            go_ret
            exact ⟨rfl, bnext ((bnext (bnext hb (below_undrew hba)) hbb).trans (hb8.mono (by have := hb.size; omega))) hbd⟩
end Go.Proofs.YtadmidkpchonhaaDoor

