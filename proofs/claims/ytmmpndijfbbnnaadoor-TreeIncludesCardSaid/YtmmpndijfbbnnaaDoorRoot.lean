/- Root of package tree and of the reference. -/
import Derived.Test.YtmmpndijfbbnnaaDoorNode
namespace Go.Proofs.YtmmpndijfbbnnaaDoor
open Go Go.RowKit Go.Sort
theorem listB_size (l : List ByteArray) : (Dg.listB l).size = 16 := by
  exact Dg.sumB_size (Dg.B (Dg.joinedL l))
theorem root_size (l : List ByteArray) : (Dg.root l).size = 16 := by
  match l with
  | [] => rw [Dg.root_nil]; exact listB_size _
  | [s] => rw [Dg.root_one]; exact listB_size _
  | s :: t :: r => rw [Dg.root_more _ (by simp)]; exact listB_size _
set_option maxRecDepth 100000 in
set_option maxHeartbeats 200000 in
theorem root_of (k : Nat) : ∀ (A : Option Addr) (c : Nat) (l : List ByteArray) (R : ByteArray) (w : World), l.length = k → Dg.root l = R → Env w → k ≤ c → k ≤ 1048576 → (∀ s ∈ l, s.size ≤ 1073741824) → Strs w w.heap.size A l →
    Calls Tryd.prog 21 #[.slice A k c] w fun e w' => e = .returned (.string R) ∧ Below w.heap.size w w' := by
  induction k using Nat.strongRecOn with
  | _ k ih =>
  intro A c l R w hk hR he hc hkb hs hS
  go_enter Tryd.func21, Tryd.ntmps21
  by_cases h0 : k = 0
  · obtain rfl : l = [] := List.length_eq_zero_iff.1 (hk.trans h0)
    subst h0
    subst hR
    go_wp2_with fail
    refine (list_new [Dg.sEmpty] _ _ 1 _ rfl (len1 _) (mem1 (by decide)) (Dg.root []) rfl w he rfl _ rfl).mono ?_
    rintro e w1 ⟨rfl, hb1⟩
    go_wp2
    go_ret
    exact ⟨rfl, hb1⟩
  · by_cases h1 : k = 1
    · obtain ⟨s, rfl⟩ : ∃ s, l = [s] := List.length_eq_one_iff.1 (hk.trans h1)
      subst h1
      subst hR
      obtain ⟨b, off, rfl, hbl, hcell⟩ := hS.get (k := 0) (by simp)
      simp only [List.getElem_cons_zero, Nat.add_zero] at hcell
      have hss := hs s (List.mem_singleton.2 rfl)
      have hm := hide (mem2 (a := Dg.sLeaf) (n := 1073741824) (by decide) hss)
      go_wp2_with fail
      refine (list_new [Dg.sLeaf, s] _ _ 2 _ rfl (len2 _ _) hm.out (Dg.root [s]) rfl w he rfl _ rfl).mono ?_
      rintro e w1 ⟨rfl, hb1⟩
      go_wp2
      go_ret
      exact ⟨rfl, hb1⟩
    · have g1 := Dg.half_pos k
      have g2 := Dg.half_lt k (by omega)
      have hroot := hide (hR.symm.trans (Dg.root_more l (by omega)))
      clear hR
      rw [hk] at hroot
      have i1 := hide (fun (W : World) (hE : Env W) (hST : Strs W W.heap.size A (l.take (Dg.half k))) => ih (Dg.half k) g2 A c (l.take (Dg.half k)) _ W (by rw [List.length_take]; omega) rfl hE (by omega) (by omega) (fun s hs' => hs s (List.mem_of_mem_take hs')) hST)
      have i2 := hide (fun (W : World) (hE : Env W) (hST : Strs W W.heap.size (offA A (Dg.half k) c) (l.drop (Dg.half k))) => ih (k - Dg.half k) (by omega) (offA A (Dg.half k) c) (c - Dg.half k) (l.drop (Dg.half k)) _ W (by rw [List.length_drop, hk]) rfl hE (by omega) (by omega) (fun s hs' => hs s (List.mem_of_mem_drop hs')) hST)
      clear ih
      have z1 := root_size (l.take (Dg.half k))
      have z2 := root_size (l.drop (Dg.half k))
      have hS1 := hS.take (Dg.half k)
      have hS2 := hS.drop (c := c) (by omega) (Dg.half k)
      go_wp2_with fail
      refine (half_any k (by omega) _).mono ?_
      rintro e w1 ⟨rfl, rfl⟩
      generalize Dg.half k = m at *
      generalize hX : Dg.root (l.take m) = X at *
      generalize hY : Dg.root (l.drop m) = Y at *
      clear hX hY hs
      have s1 := slice_to A k c m (by omega)
      have s2 := slice_from A k c m (by omega)
      have q1 := fun (d : Nat) (os : Array Obj) => Calls.regrown_of (i1.out (grow (redrawn w d) os) (he.next (below_regrown w d os)) (keepS hS1 (below_regrown w d os)))
      have q2 := fun (d : Nat) (os : Array Obj) => Calls.regrown_of (i2.out (grow (redrawn w d) os) (he.next (below_regrown w d os)) (keepS hS2 (below_regrown w d os)))
      have q3 := fun (d : Nat) (os : Array Obj) => Calls.regrown_of (node_any X Y (by omega) (by omega) (grow (redrawn w d) os) (he.next (below_regrown w d os)))
      have Q1 := hide q1; have Q2 := hide q2; have Q3 := hide q3; clear q1 q2 q3
      go_wp2_with fail
      refine wp_region_quiet_below (by kernel_rfl) (by decide +kernel) ?_
      repeat (first | go_big_quiet_step (fail) | quiet_step (fail))
      (first | go_big_quiet_step (exact Q1.out _ _) | quiet_step (exact Q1.out _ _))
      repeat (first | go_big_quiet_step (fail) | quiet_step (fail))
      (first | go_big_quiet_step (exact Q2.out _ _) | quiet_step (exact Q2.out _ _))
      repeat (first | go_big_quiet_step (fail) | quiet_step (fail))
      (first | go_big_quiet_step (exact Q3.out _ _) | quiet_step (exact Q3.out _ _))
      repeat (first | go_big_quiet_step (fail) | quiet_step (fail))
      refine wpQuiet_nil ?_
      intro _ hw'
      obtain ⟨⟨dq, osq⟩, hw''⟩ := hw'
      subst hw''
      go_wp2
      go_ret
      exact ⟨ret_str hroot.out.symm, below_regrown w dq osq⟩
set_option maxRecDepth 100000 in
set_option maxHeartbeats 200000 in
theorem rroot_of (k : Nat) : ∀ (A : Option Addr) (c : Nat) (l : List ByteArray) (R : ByteArray) (w : World), l.length = k → Dg.root l = R → k ≤ c → k ≤ 1048576 → (∀ s ∈ l, s.size ≤ 1048576) → Strs w w.heap.size A l →
    Calls Tryd.prog 22 #[.slice A k c] w fun e w' => e = .returned (.string R) ∧ Below w.heap.size w w' := by
  induction k using Nat.strongRecOn with
  | _ k ih =>
  intro A c l R w hk hR hc hkb hs hS
  go_enter Tryd.func22, Tryd.ntmps22
  by_cases h0 : k = 0
  · obtain rfl : l = [] := List.length_eq_zero_iff.1 (hk.trans h0)
    subst h0
    subst hR
    go_wp2_with fail
    refine (rempty_any w).mono ?_
    rintro e w1 ⟨rfl, hb1⟩
    go_wp2
    go_ret
    exact ⟨rfl, hb1⟩
  · by_cases h1 : k = 1
    · obtain ⟨s, rfl⟩ : ∃ s, l = [s] := List.length_eq_one_iff.1 (hk.trans h1)
      subst h1
      subst hR
      obtain ⟨b, off, rfl, hbl, hcell⟩ := hS.get (k := 0) (by simp)
      simp only [List.getElem_cons_zero, Nat.add_zero] at hcell
      have hss := hs s (List.mem_singleton.2 rfl)
      go_wp2_with fail
      refine (rleaf_any s hss w).mono ?_
      rintro e w1 ⟨rfl, hb1⟩
      go_wp2
      go_ret
      exact ⟨rfl, hb1⟩
    · have g1 := Dg.half_pos k
      have g2 := Dg.half_lt k (by omega)
      have hroot := hide (hR.symm.trans (Dg.root_more l (by omega)))
      clear hR
      rw [hk] at hroot
      have i1 := hide (fun (W : World) (hST : Strs W W.heap.size A (l.take (Dg.half k))) => ih (Dg.half k) g2 A c (l.take (Dg.half k)) _ W (by rw [List.length_take]; omega) rfl (by omega) (by omega) (fun s hs' => hs s (List.mem_of_mem_take hs')) hST)
      have i2 := hide (fun (W : World) (hST : Strs W W.heap.size (offA A (Dg.half k) c) (l.drop (Dg.half k))) => ih (k - Dg.half k) (by omega) (offA A (Dg.half k) c) (c - Dg.half k) (l.drop (Dg.half k)) _ W (by rw [List.length_drop, hk]) rfl (by omega) (by omega) (fun s hs' => hs s (List.mem_of_mem_drop hs')) hST)
      clear ih
      have z1 := root_size (l.take (Dg.half k))
      have z2 := root_size (l.drop (Dg.half k))
      have hS1 := hS.take (Dg.half k)
      have hS2 := hS.drop (c := c) (by omega) (Dg.half k)
      go_wp2_with fail
      refine (rhalf_any k (by omega) _).mono ?_
      rintro e w1 ⟨rfl, rfl⟩
      generalize Dg.half k = m at *
      generalize hX : Dg.root (l.take m) = X at *
      generalize hY : Dg.root (l.drop m) = Y at *
      clear hX hY hs
      have s1 := slice_to A k c m (by omega)
      have s2 := slice_from A k c m (by omega)
      have q1 := fun (d : Nat) (os : Array Obj) => Calls.regrown_of (i1.out (grow (redrawn w d) os) (keepS hS1 (below_regrown w d os)))
      have q2 := fun (d : Nat) (os : Array Obj) => Calls.regrown_of (i2.out (grow (redrawn w d) os) (keepS hS2 (below_regrown w d os)))
      have q3 := fun (d : Nat) (os : Array Obj) => Calls.regrown_of (rnode_any X Y (by omega) (by omega) (grow (redrawn w d) os))
      have Q1 := hide q1; have Q2 := hide q2; have Q3 := hide q3; clear q1 q2 q3
      go_wp2_with fail
      refine wp_region_quiet_below (by kernel_rfl) (by decide +kernel) ?_
      repeat (first | go_big_quiet_step (fail) | quiet_step (fail))
      (first | go_big_quiet_step (exact Q1.out _ _) | quiet_step (exact Q1.out _ _))
      repeat (first | go_big_quiet_step (fail) | quiet_step (fail))
      (first | go_big_quiet_step (exact Q2.out _ _) | quiet_step (exact Q2.out _ _))
      repeat (first | go_big_quiet_step (fail) | quiet_step (fail))
      (first | go_big_quiet_step (exact Q3.out _ _) | quiet_step (exact Q3.out _ _))
      repeat (first | go_big_quiet_step (fail) | quiet_step (fail))
      refine wpQuiet_nil ?_
      intro _ hw'
      obtain ⟨⟨dq, osq⟩, hw''⟩ := hw'
      subst hw''
      go_wp2
      go_ret
      exact ⟨ret_str hroot.out.symm, below_regrown w dq osq⟩
end Go.Proofs.YtmmpndijfbbnnaaDoor
