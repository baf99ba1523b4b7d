/- Check, long, both and Extends of the reference. -/
import Derived.Test.YtmmpndijfbbnnaaDoorRLink
namespace Go.Proofs.YtmmpndijfbbnnaaDoor
open Go Go.RowKit Go.Sort
theorem ieq_t {a b : Int} (h : a = b) : (a == b) = true := beq_iff_eq.2 h
theorem ine_f {a b : Int} (h : a = b) : (a != b) = false := by rw [bne, ieq_t h]; rfl
theorem ieq_f {a b : Int} (h : a ≠ b) : (a == b) = false := beq_eq_false_iff_ne.2 h
theorem ine_t {a b : Int} (h : a ≠ b) : (a != b) = true := by rw [bne, ieq_f h]; rfl
set_option maxHeartbeats 400000 in
theorem rcheck_of (root : ByteArray) (n i : Int) (leaf : ByteArray) (A : Option Addr) (c k : Nat) (p : List ByteArray) (R : Bool) (hR : checkB root n i leaf p = R) (w : World) (hk : p.length = k) (hk2 : k ≤ 1048576) (hkc : k ≤ c) (hps : ∀ s ∈ p, s.size ≤ 1048576) (hleaf : leaf.size ≤ 1048576) (hS : Strs w w.heap.size A p) :
    Calls Tryd.prog 25 #[.string root, .int .i64 n, .int .i64 i, .string leaf, .slice A k c] w fun e w' => e = .returned (.bool R) ∧ Below w.heap.size w w' := by
  have HR := hide hR; clear hR
  have HPS := hide hps; clear hps
  go_enter Tryd.func25, Tryd.ntmps25
  by_cases q1 : 1000000 < n
  · have q : checkB root n i leaf p = false := by unfold checkB; rw [decide_eq_false (by omega), Bool.false_and]
    have := q.symm.trans HR.out
    subst this
    go_wp2
    go_ret
    exact ⟨rfl, Below.refl _ _⟩
  by_cases q2 : i < 0
  · have q : checkB root n i leaf p = false := by unfold checkB; rw [decide_eq_false (by omega), Bool.false_and]
    have := q.symm.trans HR.out
    subst this
    go_wp2
    go_ret
    exact ⟨rfl, Below.refl _ _⟩
  by_cases q3 : n ≤ i
  · have q : checkB root n i leaf p = false := by unfold checkB; rw [decide_eq_false (by omega), Bool.false_and]
    have := q.symm.trans HR.out
    subst this
    go_wp2
    go_ret
    exact ⟨rfl, Below.refl _ _⟩
  obtain ⟨I, rfl⟩ : ∃ I : Nat, i = I := ⟨i.toNat, by omega⟩
  obtain ⟨N, rfl⟩ : ∃ N : Nat, n = N := ⟨n.toNat, by omega⟩
  have q4 : decide ((N : Int) ≤ 1000000 ∧ (0 : Int) ≤ I ∧ (I : Int) < N) = true := decide_eq_true (by omega)
  have o1 : N ≤ 1000000 := by omega
  have o2 : I < N := by omega
  clear q1 q2 q3
  have HQ : Hid ((allDig p && (decide (p.length = Dg.length N I) && decide (Dg.up N I (Dg.leafB leaf) p.reverse = root))) = R) := by
    have := HR.out
    unfold checkB at this
    rw [q4, Bool.true_and, Int.toNat_natCast, Int.toNat_natCast] at this
    exact this
  clear HR q4
  subst hk
  go_wp2_with fail
  have hl := length_le N I
  have hup := hide (fun (W : World) (h : p.length = Dg.length N I) (hST : Strs W W.heap.size A p) => rup_any N I A c p.length (Dg.leafB leaf) p _ W rfl h.symm rfl (by omega) o2 (by omega) hkc (by rw [Dg.leafB, listB_size]; decide) HPS.out hST)
  refine (rlength_any N I _ _ rfl (by omega) o2 (by omega)).mono ?_
  rintro e w1 ⟨rfl, rfl⟩
  by_cases he : p.length = Dg.length N I
  · have he' := hide he
    generalize hL : Dg.length N I = L at *
    have e1 : ((p.length : Int) == (L : Int)) = true := ieq_t (by omega)
    have e2 : ((p.length : Int) != (L : Int)) = false := ine_f (by omega)
    clear hL he
    go_wp2_with fail
    cases hd : allDig p with
    | false =>
      have q := HQ.out
      rw [hd, Bool.false_and] at q
      subst q
      refine (rdigests_any A c p.length p false hd _ rfl (by omega) (fun s hs => by have := HPS.out s hs; omega) hS).mono ?_
      rintro e w2 ⟨rfl, hb⟩
      clear hd
      go_wp2
      go_ret
      exact ⟨rfl, hb⟩
    | true =>
      have q := HQ.out
      rw [hd, decide_eq_true he'.out, Bool.true_and, Bool.true_and] at q
      have HQ2 := hide q; clear q HQ
      refine (rdigests_any A c p.length p true hd _ rfl (by omega) (fun s hs => by have := HPS.out s hs; omega) hS).mono ?_
      rintro e w2 ⟨rfl, hb⟩
      clear hd
      go_wp2_with fail
      refine (rleaf_any leaf hleaf _).mono ?_
      rintro e w3 ⟨rfl, hb3⟩
      have hb4 := bnext hb hb3
      have hU := hide (hup.out w3 he'.out (keepS hS hb4))
      generalize Dg.up N I (Dg.leafB leaf) p.reverse = X at *
      clear hup hS
      go_wp2_with fail
      refine hU.out.mono ?_
      rintro e w4 ⟨rfl, hb5⟩
      have hb6 := bnext hb4 hb5
      by_cases hx : X = root
      · have t1 := tl_true hx
        have q := HQ2.out
        rw [decide_eq_true hx] at q
        subst q hx
        go_wp2
        go_ret
        exact ⟨rfl, hb6⟩
      · have t1 := tl_false hx
        have q := HQ2.out
        rw [decide_eq_false hx] at q
        subst q
        clear hx
        go_wp2
        go_ret
        exact ⟨rfl, hb6⟩
  · have q := HQ.out
    rw [decide_eq_false he, Bool.false_and, Bool.and_false] at q
    subst q
    generalize hL : Dg.length N I = L at *
    have e1 : ((p.length : Int) == (L : Int)) = false := ieq_f (by omega)
    have e2 : ((p.length : Int) != (L : Int)) = true := ine_t (by omega)
    clear hL he hup
    go_wp2
    go_ret
    exact ⟨rfl, Below.refl _ _⟩
set_option maxHeartbeats 400000 in
theorem rlong_any (n : Nat) : ∀ (i : Nat) (wh : Bool) (r : Nat) (w : World), Dg.long n i wh = r → 1 ≤ i → i ≤ n → n ≤ 1048576 →
    Calls Tryd.prog 63 #[.int .i64 n, .int .i64 i, .bool wh] w fun e w' => e = .returned (.int .i64 r) ∧ w = w' := by
  induction n using Nat.strongRecOn with
  | _ n ih =>
  intro i wh r w hr h1 hi hn
  go_enter Tryd.func63, Tryd.ntmps63
  by_cases hone : i = n
  · subst hone
    rw [Dg.long_all] at hr
    cases wh with
    | true =>
      rw [if_pos rfl] at hr
      subst hr
      clear ih
      go_wp2
      go_ret
      exact ⟨rfl, rfl⟩
    | false =>
      rw [if_neg (by decide)] at hr
      subst hr
      clear ih
      go_wp2
      go_ret
      exact ⟨rfl, rfl⟩
  · have g1 := Dg.half_pos n
    have g2 := Dg.half_lt n (by omega)
    have n1 : ((i : Int) == (n : Int)) = false := by simpa using (show ¬ (i : Int) = n by omega)
    have pf := hide (fun h => Dg.long_fst n i wh h1 (by omega) h)
    have ps := hide (fun h => Dg.long_snd n i wh (by omega) h)
    have l1 : i ≤ Dg.half n → Dg.long (Dg.half n) i wh ≤ 1048576 := fun h => by have := long_le (Dg.half n) i wh h1 h; omega
    have l2 : ¬ i ≤ Dg.half n → Dg.long (n - Dg.half n) (i - Dg.half n) false ≤ 1048576 := fun h => by have := long_le (n - Dg.half n) (i - Dg.half n) false (by omega) (by omega); omega
    have L1 := hide l1; have L2 := hide l2; clear l1 l2
    have i1 := hide (fun (W : World) (h : i ≤ Dg.half n) => ih (Dg.half n) g2 i wh _ W rfl h1 h (by omega))
    have i2 := hide (fun (W : World) (h : ¬ i ≤ Dg.half n) => ih (n - Dg.half n) (by omega) (i - Dg.half n) false _ W rfl (by omega) (by omega) (by omega))
    clear ih
    have HR := hide hr; clear hr
    go_wp2_with fail
    refine (rhalf_any n (by omega) _).mono ?_
    rintro e w1 ⟨rfl, rfl⟩
    generalize Dg.half n = m at *
    generalize Dg.long m i wh = r1 at *
    generalize Dg.long (n - m) (i - m) false = r2 at *
    by_cases him : i ≤ m
    · have hl := L1.out him
      have hrr := HR.out
      rw [pf.out him] at hrr
      subst hrr
      go_wp2_with fail
      refine (i1.out _ him).mono ?_
      rintro e w1 ⟨rfl, rfl⟩
      go_wp2
      go_ret
      exact ⟨ret_int (by go_num), rfl⟩
    · have hl := L2.out him
      have hrr := HR.out
      rw [ps.out him] at hrr
      subst hrr
      have c1 : (n : Int) - (m : Int) = ((n - m : Nat) : Int) := by omega
      have c2 : (i : Int) - (m : Int) = ((i - m : Nat) : Int) := by omega
      go_wp2_with fail
      refine (i2.out _ him).mono ?_
      rintro e w1 ⟨rfl, rfl⟩
      go_wp2
      go_ret
      exact ⟨ret_int (by go_num), rfl⟩
theorem bothW_le (m : Nat) (h16 : 16 ≤ m) (w : List Bool) : ∀ (whole : Bool) (old : ByteArray) (r : List ByteArray), old.size ≤ m → (∀ s ∈ r, s.size ≤ m) → (Dg.bothW w whole old r).1.size ≤ m ∧ (Dg.bothW w whole old r).2.size ≤ m := by
  have hd : ∀ r : List ByteArray, (∀ s ∈ r, s.size ≤ m) → (r.headD ⟨#[]⟩).size ≤ m := fun r h => by
    cases r with
    | nil => exact Nat.zero_le _
    | cons a r => exact h a (List.mem_cons_self ..)
  induction w with
  | nil =>
    intro whole old r ho hr
    rw [Dg.bothW]
    split
    · exact ⟨ho, ho⟩
    · exact ⟨hd r hr, hd r hr⟩
  | cons b w ih =>
    intro whole old r ho hr
    have hn : ∀ x y, (Dg.nodeB x y).size ≤ m := fun x y => by rw [Dg.nodeB, listB_size]; exact h16
    cases b with
    | true => exact ⟨(ih _ _ _ ho fun s hs => hr s (List.mem_of_mem_tail hs)).1, hn _ _⟩
    | false => exact ⟨hn _ _, hn _ _⟩
theorem rtake_mem {p : List ByteArray} {m : Nat} (h : ∀ s ∈ p, s.size ≤ m) (k : Nat) : ∀ s ∈ (p.take k).reverse, s.size ≤ m := fun s hs => h s (List.mem_of_mem_take (List.mem_reverse.1 hs))
set_option maxRecDepth 100000 in
set_option maxHeartbeats 1000000 in
theorem rboth_any (n : Nat) : ∀ (i : Nat) (wh : Bool) (A : Option Addr) (c k : Nat) (old : ByteArray) (p : List ByteArray) (R1 R2 : ByteArray) (w : World), p.length = k → Dg.long n i wh = k → (Dg.both n i wh old p.reverse).1 = R1 → (Dg.both n i wh old p.reverse).2 = R2 → 1 ≤ i → i ≤ n → n ≤ 1048576 → k ≤ c →
    old.size ≤ 1048576 → (∀ s ∈ p, s.size ≤ 1048576) → Strs w w.heap.size A p →
    Calls Tryd.prog 64 #[.int .i64 n, .int .i64 i, .bool wh, .string old, .slice A k c] w fun e w' => e = .returned (.tuple #[.string R1, .string R2]) ∧ Below w.heap.size w w' := by
  induction n using Nat.strongRecOn with
  | _ n ih =>
  intro i wh A c k old p R1 R2 w hpk hlk hR1 hR2 h1 hi hn hc ho hs hS
  go_enter Tryd.func64, Tryd.ntmps64
  by_cases hone : i = n
  · subst hone
    rw [Dg.both_all] at hR1 hR2
    rw [Dg.long_all] at hlk
    clear ih
    cases wh with
    | true =>
      rw [if_pos rfl] at hR1 hR2
      have H1 := hide hR1; have H2 := hide hR2; clear hR1 hR2 hlk hs
      subst hpk
      go_wp2
      go_ret2
      exact ⟨ret_pair H1.out H2.out, Below.refl _ _⟩
    | false =>
      rw [if_neg (by decide)] at hR1 hR2 hlk
      subst hlk
      obtain ⟨x, rfl⟩ : ∃ x, p = [x] := List.length_eq_one_iff.1 hpk
      have H1 := hide (show x = R1 from hR1); have H2 := hide (show x = R2 from hR2); clear hR1 hR2 hs
      obtain ⟨b, off, rfl, hbl, hcell⟩ := hS.get (k := 0) (by simp)
      simp only [List.getElem_cons_zero, Nat.add_zero] at hcell
      go_wp2_with fail
      go_quiet (fail)
      go_wp2
      go_ret2
      exact ⟨ret_pair H1.out H2.out, below_drewN (Below.refl _ _) _⟩
  · have g1 := Dg.half_pos n
    have g2 := Dg.half_lt n (by omega)
    have n1 : ((i : Int) == (n : Int)) = false := by simpa using (show ¬ (i : Int) = n by omega)
    have pf := hide (fun h => (Dg.long_fst n i wh h1 (by omega) h).symm.trans hlk)
    have ps := hide (fun h => (Dg.long_snd n i wh (by omega) h).symm.trans hlk)
    have uf := hide (fun h => Dg.both_fst n i wh old p.reverse h1 (by omega) h)
    have us := hide (fun h => Dg.both_snd n i wh old p.reverse (by omega) h)
    have hk1 : 1 ≤ k := by
      by_cases him : i ≤ Dg.half n
      · have := pf.out him; omega
      · have := ps.out him; omega
    have hkn : k ≤ n := hlk ▸ long_le n i wh h1 hi
    clear hlk
    have H1 := hide hR1; have H2 := hide hR2; clear hR1 hR2
    subst hpk
    rw [rev_tail, rev_head p (by omega)] at uf us
    have hlast := hs p[p.length - 1] (List.getElem_mem (by omega))
    have i1 := hide (fun (W : World) (h : i ≤ Dg.half n) (hST : Strs W W.heap.size A (p.take (p.length - 1))) => ih (Dg.half n) g2 i wh A c (p.length - 1) old (p.take (p.length - 1)) _ _ W (by rw [List.length_take]; omega) (by have := pf.out h; omega) rfl rfl h1 h (by omega) (by omega) ho (fun s h => hs s (List.mem_of_mem_take h)) hST)
    have i2 := hide (fun (W : World) (h : ¬ i ≤ Dg.half n) (hST : Strs W W.heap.size A (p.take (p.length - 1))) => ih (n - Dg.half n) (by omega) (i - Dg.half n) false A c (p.length - 1) old (p.take (p.length - 1)) _ _ W (by rw [List.length_take]; omega) (by have := ps.out h; omega) rfl rfl (by omega) (by omega) (by omega) (by omega) ho (fun s h => hs s (List.mem_of_mem_take h)) hST)
    have z1 := bothW_le 1048576 (by decide) (Dg.way (Dg.half n) i) wh old (p.take (p.length - 1)).reverse ho (rtake_mem hs _)
    have z2 := bothW_le 1048576 (by decide) (Dg.way (n - Dg.half n) (i - Dg.half n)) false old (p.take (p.length - 1)).reverse ho (rtake_mem hs _)
    change (Dg.both (Dg.half n) i wh old (p.take (p.length - 1)).reverse).1.size ≤ _ ∧ (Dg.both (Dg.half n) i wh old (p.take (p.length - 1)).reverse).2.size ≤ _ at z1
    change (Dg.both (n - Dg.half n) (i - Dg.half n) false old (p.take (p.length - 1)).reverse).1.size ≤ _ ∧ (Dg.both (n - Dg.half n) (i - Dg.half n) false old (p.take (p.length - 1)).reverse).2.size ≤ _ at z2
    clear ih hs
    have hS1 := hS.take (p.length - 1)
    obtain ⟨b, off, rfl, hbl, hcell⟩ := hS.get (k := p.length - 1) (by omega)
    go_wp2_with fail
    refine (rhalf_any n (by omega) _).mono ?_
    rintro e w1 ⟨rfl, rfl⟩
    generalize Dg.half n = m at *
    generalize p.take (p.length - 1) = q at *
    generalize (Dg.both m i wh old q.reverse).1 = X1 at *
    generalize (Dg.both m i wh old q.reverse).2 = X2 at *
    generalize (Dg.both (n - m) (i - m) false old q.reverse).1 = Y1 at *
    generalize (Dg.both (n - m) (i - m) false old q.reverse).2 = Y2 at *
    generalize p[p.length - 1] = last at *
    clear hS
    generalize hpr : p.reverse = pr at *
    clear hpr
    generalize p.length = k at *
    obtain ⟨j, rfl⟩ : ∃ j, k = j + 1 := ⟨k - 1, by omega⟩
    rw [Nat.add_sub_cancel] at hcell i1 i2
    have s1 := slice_to (some ⟨b, off, none⟩) (j + 1) c j (by omega)
    by_cases him : i ≤ m
    · have x1 := hide (H1.out.symm.trans (congrArg Prod.fst (uf.out him)))
      have x2 := hide (H2.out.symm.trans (congrArg Prod.snd (uf.out him)))
      clear uf us H1 H2
      go_wp2_with fail
      refine (i1.out _ him hS1).mono ?_
      rintro e w1 ⟨rfl, hb1⟩
      go_wp2_with fail
      refine (rnode_any X2 last z1.2 hlast _).mono ?_
      rintro e w2 ⟨rfl, hb2⟩
      go_wp2
      go_ret2
      exact ⟨ret_pair x1.out.symm x2.out.symm, bnext hb1 hb2⟩
    · have x1 := hide (H1.out.symm.trans (congrArg Prod.fst (us.out him)))
      have x2 := hide (H2.out.symm.trans (congrArg Prod.snd (us.out him)))
      clear uf us H1 H2
      have c1 : (n : Int) - (m : Int) = ((n - m : Nat) : Int) := by omega
      have c2 : (i : Int) - (m : Int) = ((i - m : Nat) : Int) := by omega
      go_wp2_with fail
      refine (i2.out _ him hS1).mono ?_
      rintro e w1 ⟨rfl, hb1⟩
      go_wp2_with fail
      refine (rnode_any last Y1 hlast z2.1 _).mono ?_
      rintro e w2 ⟨rfl, hb2⟩
      go_wp2_with fail
      refine (rnode_any last Y2 hlast z2.2 _).mono ?_
      rintro e w3 ⟨rfl, hb3⟩
      go_wp2
      go_ret2
      exact ⟨ret_pair x1.out.symm x2.out.symm, bnext (bnext hb1 hb2) hb3⟩
end Go.Proofs.YtmmpndijfbbnnaaDoor
