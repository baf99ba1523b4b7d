/- Check of package tree. -/
import Derived.Test.YtmmpndijfbbnnaaDoorCheck
import Derived.Test.YtmmpndijfbbnnaaDoorTreeLink
import Derived.Laws.EntriesVeiled
namespace Go.Proofs.YtmmpndijfbbnnaaDoor
open Go Go.RowKit Go.Sort
/-- What Check answers. -/
def checkB (root : ByteArray) (n i : Int) (s : ByteArray) (p : List ByteArray) : Bool :=
  decide (n ≤ 1000000 ∧ 0 ≤ i ∧ i < n) && (allDig p && (decide (p.length = Dg.length n.toNat i.toNat) && decide (Dg.up n.toNat i.toNat (Dg.leafB s) p.reverse = root)))
theorem allDig_mem {p : List ByteArray} (h : allDig p = true) : ∀ s ∈ p, Dg.isB s = true := fun s hs => by unfold allDig at h; exact List.all_eq_true.1 h s hs
theorem allDig_16 {p : List ByteArray} (h : allDig p = true) : ∀ s ∈ p, s.size = 16 := fun s hs => Dg.isB_len (allDig_mem h s hs)
/-- The blocks that Check and Extends lay before they call their closures. -/
theorem setup (w : World) (g : Nat) (T1 T2 T3 : TypeId) (B bl bf c n : Nat) (A : Option Addr) (v : Value) (h1 : w.cell? ⟨bl, 0, none⟩ = some (.slice A n c)) (h2 : w.frozen? ⟨bl, 0, none⟩ = false) (h3 : w.cell? ⟨bf, 0, none⟩ = some v)
    (hbl : bl < w.heap.size) (hbf : bf < w.heap.size) (hne : bf ≠ bl) (hB : B ≤ bl) (hg : 3 < B) (N1 N2 : Nat) (hN1 : N1 = w.heap.size + 1) (hN2 : N2 = w.heap.size + 1 + 1) (W : World)
    (hW : W = ((w.alloc (.cells #[.pointer (some ⟨bl, 0, none⟩), .bool false] T1)).alloc (.cells #[.pointer (some ⟨w.heap.size, 0, none⟩)] T2)).alloc (.cells #[.func (.func g) #[] #[.pointer (some ⟨bf, 0, none⟩), .pointer (some ⟨N1, 0, none⟩), .pointer (some ⟨N2, 0, none⟩)]] T3)) :
    PSt W bl w.heap.size A c n false ∧ CEnv W g bf N1 N2 w.heap.size v ∧ Blk W B bl w.heap.size bf N1 N2 ∧ Below w.heap.size w W := by
  subst hW hN1 hN2
  generalize ho1 : Obj.cells #[.pointer (some ⟨bl, 0, none⟩), .bool false] T1 = o1
  generalize ho2 : Obj.cells #[.pointer (some ⟨w.heap.size, 0, none⟩)] T2 = o2
  generalize ho3 : Obj.cells #[.func (.func g) #[] #[.pointer (some ⟨bf, 0, none⟩), .pointer (some ⟨w.heap.size + 1, 0, none⟩), .pointer (some ⟨w.heap.size + 1 + 1, 0, none⟩)]] T3 = o3
  have s1 : (w.alloc o1).heap.size = w.heap.size + 1 := by simp
  have s2 : ((w.alloc o1).alloc o2).heap.size = w.heap.size + 1 + 1 := by simp
  have s3 : (((w.alloc o1).alloc o2).alloc o3).heap.size = w.heap.size + 1 + 1 + 1 := by simp
  have b0 : Below w.heap.size w (((w.alloc o1).alloc o2).alloc o3) := (((Below.refl _ _).alloc (Nat.le_refl _) _).alloc (by omega) _).alloc (by omega) _
  have b1 : Below (w.alloc o1).heap.size (w.alloc o1) (((w.alloc o1).alloc o2).alloc o3) := ((Below.refl _ _).alloc (Nat.le_refl _) _).alloc (by omega) _
  have b2 : Below ((w.alloc o1).alloc o2).heap.size ((w.alloc o1).alloc o2) (((w.alloc o1).alloc o2).alloc o3) := (Below.refl _ _).alloc (Nat.le_refl _) _
  have n1 : (w.alloc o1).heap[w.heap.size]? = some o1 := heap_alloc_new w o1
  have n2 : ((w.alloc o1).alloc o2).heap[w.heap.size + 1]? = some o2 := by have := heap_alloc_new (w.alloc o1) o2; rwa [s1] at this
  have n3 : (((w.alloc o1).alloc o2).alloc o3).heap[w.heap.size + 1 + 1]? = some o3 := by have := heap_alloc_new ((w.alloc o1).alloc o2) o3; rwa [s2] at this
  subst ho1 ho2 ho3
  refine ⟨⟨?_, ?_, ?_, ?_, ?_⟩, ⟨?_, ?_, ?_⟩, ⟨hg, hB, by omega, by omega, hne, by omega, by omega, by omega, by omega, by omega, by omega, by omega, by omega, by omega, by omega⟩, b0⟩
  · exact (b0.cell (p := ⟨bl, 0, none⟩) hbl).trans h1
  · exact (b0.frozen (p := ⟨bl, 0, none⟩) hbl).trans h2
  · rw [b1.cell (p := ⟨w.heap.size, 0, none⟩) (by show w.heap.size < _; omega), cell_of_row _ _ _ _ _ (0, 0) n1]; rfl
  · rw [b1.cell (p := ⟨w.heap.size, 1, none⟩) (by show w.heap.size < _; omega), cell_of_row _ _ _ _ _ (0, 0) n1]; rfl
  · rw [b1.frozen (p := ⟨w.heap.size, 1, none⟩) (by show w.heap.size < _; omega)]; exact frozen_of_row _ _ _ _ _ n1
  · exact (b0.cell (p := ⟨bf, 0, none⟩) hbf).trans h3
  · rw [b2.cell (p := ⟨w.heap.size + 1, 0, none⟩) (by show w.heap.size + 1 < _; omega), cell_of_row _ _ _ _ _ (0, 0) n2]; rfl
  · rw [cell_of_row _ _ _ _ _ (0, 0) n3]; rfl
theorem used_all (a b : Nat) : (!(false || decide (a < b)) && decide (a - b = 0)) = decide (a = b) := by
  rw [Bool.false_or, Bool.eq_iff_iff]
  simp only [Bool.and_eq_true, Bool.not_eq_true', decide_eq_false_iff_not, decide_eq_true_eq]
  omega
set_option maxHeartbeats 1000000 in
theorem check_of (root : ByteArray) (n i : Int) (leaf : ByteArray) (A : Option Addr) (c k : Nat) (p : List ByteArray) (R : Bool) (hR : checkB root n i leaf p = R) (w : World) (he : Env w) (hk : p.length = k) (hk2 : k ≤ 1048576) (hps : ∀ s ∈ p, s.size ≤ 1073741824) (hleaf : leaf.size ≤ 1073741824) (hS : Strs w w.heap.size A p) :
    Calls Tryd.prog 24 #[.string root, .int .i64 n, .int .i64 i, .string leaf, .slice A k c] w fun e w' => e = .returned (.bool R) ∧ Below w.heap.size w w' := by
  have HR := hide hR; clear hR
  have HPS := hide hps; clear hps
  go_enter Tryd.func24, Tryd.ntmps24
  have hS1 : Strs (w.alloc (.cells #[.string leaf] 9)) (w.alloc (.cells #[.string leaf] 9)).heap.size A p := keepS hS ((Below.refl _ _).alloc (Nat.le_refl _) _)
  go_wp2_with fail
  refine (clone_any A k c p _ hk (by omega) hS1).mono ?_
  rintro e w2 ⟨v', rfl, ho, hb2⟩
  obtain ⟨A1, c1, rfl, hc1, hS2⟩ := ho.strs
  subst hk
  have hbf : w2.cell? ⟨w.heap.size, 0, none⟩ = some (.string leaf) := by
    rw [hb2.cell (p := ⟨w.heap.size, 0, none⟩) (by simp), cell_of_row _ _ _ _ _ (0, 0) (heap_alloc_new w _)]; rfl
  have hsz : w.heap.size < w2.heap.size := by have := hb2.size; simp at this; omega
  have hB := ((Below.refl _ w).alloc (Nat.le_refl _) (.cells #[.string leaf] 9)).trans (hb2.mono (by simp))
  clear ho hS1 hS hb2
  by_cases q1 : 1000000 < n
  · have q : checkB root n i leaf p = false := by unfold checkB; rw [decide_eq_false (by omega), Bool.false_and]
    have := q.symm.trans HR.out
    subst this
    go_wp2
    go_ret
    exact ⟨rfl, hB.alloc (by omega) _⟩
  by_cases q2 : i < 0
  · have q : checkB root n i leaf p = false := by unfold checkB; rw [decide_eq_false (by omega), Bool.false_and]
    have := q.symm.trans HR.out
    subst this
    go_wp2
    go_ret
    exact ⟨rfl, hB.alloc (by omega) _⟩
  by_cases q3 : n ≤ i
  · have q : checkB root n i leaf p = false := by unfold checkB; rw [decide_eq_false (by omega), Bool.false_and]
    have := q.symm.trans HR.out
    subst this
    go_wp2
    go_ret
    exact ⟨rfl, hB.alloc (by omega) _⟩
  obtain ⟨I, rfl⟩ : ∃ I : Nat, i = I := ⟨i.toNat, by omega⟩
  obtain ⟨N, rfl⟩ : ∃ N : Nat, n = N := ⟨n.toNat, by omega⟩
  have q4 : decide ((N : Int) ≤ 1000000 ∧ (0 : Int) ≤ I ∧ (I : Int) < N) = true := decide_eq_true (by omega)
  have hG := (he.next hB).lt
  have hE2 := he.next hB
  have o1 : N ≤ 1000000 := by omega
  have o2 : I < N := by omega
  clear q1 q2 q3
  go_wp2_with fail
  cases hd : allDig p with
  | false =>
    have q : checkB root N I leaf p = false := by unfold checkB; rw [hd, Bool.false_and, Bool.and_false]
    have := q.symm.trans HR.out
    subst this
    refine (proper_any A1 c1 p.length p false hd _ rfl (by omega) (fun s hs => by have := HPS.out s hs; omega) (keepS hS2 ((Below.refl _ _).alloc (Nat.le_refl _) _))).mono ?_
    rintro e w3 ⟨rfl, hb3⟩
    clear hd
    go_wp2
    go_ret
    exact ⟨rfl, bnextA hB hb3⟩
  | true =>
    refine (proper_any A1 c1 p.length p true hd _ rfl (by omega) (fun s hs => by have := HPS.out s hs; omega) (keepS hS2 ((Below.refl _ _).alloc (Nat.le_refl _) _))).mono ?_
    rintro e w3 ⟨rfl, hb3⟩
    have q : checkB root N I leaf p = (decide (p.length = Dg.length N I) && decide (Dg.up N I (Dg.leafB leaf) p.reverse = root)) := by
      unfold checkB; rw [hd, q4, Bool.true_and, Bool.true_and, Int.toNat_natCast, Int.toNat_natCast]
    have HR2 := hide (q.symm.trans HR.out); clear q q4
    have h16 := hide (allDig_16 hd); clear hd
    have hb32 : Below w2.heap.size w2 w3 := bnextA (Below.refl _ _) hb3
    have hsz3 := hb3.size
    simp only [World.size_alloc] at hsz3
    have x1 : w3.cell? ⟨w2.heap.size, 0, none⟩ = some (.slice A1 p.length c1) := by
      rw [hb3.cell (p := ⟨w2.heap.size, 0, none⟩) (by simp), cell_of_row _ _ _ _ _ (0, 0) (heap_alloc_new w2 _)]; rfl
    have x2 : w3.frozen? ⟨w2.heap.size, 0, none⟩ = false := by
      rw [hb3.frozen (p := ⟨w2.heap.size, 0, none⟩) (by simp)]; exact frozen_of_row _ _ _ _ _ (heap_alloc_new w2 _)
    have x3 : w3.cell? ⟨w.heap.size, 0, none⟩ = some (.string leaf) := (hb32.cell (p := ⟨w.heap.size, 0, none⟩) hsz).trans hbf
    obtain ⟨y1, y2, y3, y4⟩ := setup w3 56 69 66 70 w2.heap.size w2.heap.size w.heap.size c1 p.length A1 (.string leaf) x1 x2 x3 (by omega) (by omega) (by omega) (Nat.le_refl _) hG (w3.heap.size + 1) (w3.heap.size + 1 + 1) rfl rfl _ rfl
    have hB3 := hB.trans (hb32.mono hB.size)
    have hE3 := (hE2.next hb32).next y4
    have hS3 := (hS2.below hb32).below (y4.mono hb32.size)
    have Y1 := hide y1; have Y2 := hide y2; have Y3 := hide y3; have HS3 := hide hS3; have HE3 := hide hE3; have Y4 := hide y4
    clear y1 y2 y3 hS3 hE3 y4 x1 x2 x3 hbf hb3 hE2 hS2
    have hup := hide (fun (W : World) (a1 : Env W) (a2 : Blk W w2.heap.size w2.heap.size w3.heap.size w.heap.size (w3.heap.size + 1) (w3.heap.size + 1 + 1)) a3 a4 a5 => up_any w2.heap.size w2.heap.size w3.heap.size w.heap.size (w3.heap.size + 1) (w3.heap.size + 1 + 1) c1 A1 leaf p h16.out hc1 (by omega) hleaf N I p.length _ false _ _ W (by omega) o1 o2 (Nat.le_refl _) rfl rfl rfl a1 a2 a3 a4 a5)
    have hl := length_le N I
    rw [List.take_length] at hup
    go_wp2_with fail
    refine (hup.out _ HE3.out Y3.out Y1.out Y2.out HS3.out).mono ?_
    rintro e w4 ⟨rfl, hq, hm⟩
    have hB4 := (hB3.trans (Y4.out.mono hB3.size)).trans (hm.toBelow (by omega) (by omega) (by simp; omega))
    have hdone := hide (fun R hR => done_any w2.heap.size w3.heap.size A1 c1 (p.length - Dg.length N I) (false || decide (p.length < Dg.length N I)) R w4 hq (by omega) hR)
    have hcP := (Y2.out.mut Y3.out hm).P
    generalize hX : Dg.up N I (Dg.leafB leaf) p.reverse = X at *
    clear hX hup hq hm
    by_cases hx : X = root
    · have HH := HR2.out
      rw [decide_eq_true hx, Bool.and_true] at HH
      have t1 := tl_true hx
      have HH := hide HH
      subst hx
      go_wp2_with fail
      refine (hdone.out R ((used_all _ _).trans HH.out)).mono ?_
      rintro e w5 ⟨rfl, rfl⟩
      go_wp2
      go_ret
      exact ⟨rfl, hB4⟩
    · have HH := HR2.out
      rw [decide_eq_false hx, Bool.and_false] at HH
      subst HH
      have t1 := tl_false hx
      clear hx
      go_wp2
      go_ret
      exact ⟨rfl, hB4⟩
end Go.Proofs.YtmmpndijfbbnnaaDoor
