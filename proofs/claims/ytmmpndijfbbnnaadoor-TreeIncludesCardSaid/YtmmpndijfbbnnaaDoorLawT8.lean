/- The law TreeIncludes. -/
import Derived.Test.YtmmpndijfbbnnaaDoorLawT2
import Derived.Test.YtmmpndijfbbnnaaDoorApp2
namespace Go.Proofs.YtmmpndijfbbnnaaDoor
open Go Go.RowKit Go.Sort
theorem path_isB (l : List ByteArray) (i : Nat) : ∀ s ∈ Dg.path l i, Dg.isB s = true ∧ s.size = 16 := Dg.path_sizes l.length l i rfl
theorem incl_yes (l : List ByteArray) (i : Nat) (hi : i < l.length) (hl : l.length ≤ 1000000) : checkB (Dg.root l) l.length i l[i] (Dg.path l i) = true := by
  unfold checkB
  rw [decide_eq_true (show (l.length : Int) ≤ 1000000 ∧ (0 : Int) ≤ i ∧ (i : Int) < l.length by omega), allDig_yes _ (fun x hx => (path_isB l i x hx).1), Int.toNat_natCast, Int.toNat_natCast, Dg.path_len l.length l i rfl hi, Dg.path_up l.length l i hi rfl]
  simp
theorem check_len (root : ByteArray) (n i : Nat) (s : ByteArray) (p : List ByteArray) (h : p.length ≠ Dg.length n i) : checkB root n i s p = false := by
  unfold checkB
  rw [Int.toNat_natCast, Int.toNat_natCast, decide_eq_false h, Bool.false_and, Bool.and_false, Bool.and_false]
theorem incl_more (l : List ByteArray) (i : Nat) (hi : i < l.length) (x y : ByteArray) : checkB (Dg.root l) l.length i x (Dg.path l i ++ [y]) = false :=
  check_len _ _ _ _ _ (by rw [len_snoc, Dg.path_len l.length l i rfl hi]; omega)
theorem incl_less (l : List ByteArray) (i : Nat) (hi : i < l.length) (x : ByteArray) (k : Nat) (hk : k < (Dg.path l i).length) : checkB (Dg.root l) l.length i x ((Dg.path l i).take k) = false :=
  check_len _ _ _ _ _ (by rw [List.length_take, ← Dg.path_len l.length l i rfl hi]; omega)
theorem path_small (l : List ByteArray) (i : Nat) (hi : i < l.length) (hl : l.length ≤ 20) : (Dg.path l i).length ≤ Dg.bits 5 l.length ∧ ((Dg.path l i).length = 0 ↔ l.length = 1) := by
  rw [Dg.path_len l.length l i rfl hi]
  exact ⟨Dg.length_small _ hl _ hi, Dg.length_zero _ _ (by omega)⟩
theorem new_cell_n (w : World) (v : Value) (T : TypeId) (n : Nat) (hn : w.heap.size = n) : (w.alloc (.cells #[v] T)).cell? ⟨n, 0, none⟩ = some v := by subst hn; exact new_cell w v T
set_option maxRecDepth 100000 in
set_option maxHeartbeats 4000000 in
theorem law_includes (A : Option Addr) (c : Nat) (l : List ByteArray) (raw : Nat) (hraw : raw ≤ 255) (w : World) (he : Env w) (hl : l.length ≤ 9223372036854775807) (hls : ∀ s ∈ l, s.size ≤ 9223372036854775807) (hS : Strs w w.heap.size A l) (hc : l.length ≤ c) :
    Calls Tryd.prog 4 #[.slice A l.length c, .int .u8 raw] w fun e w' => e = .returned (.bool true) ∧ Below w.heap.size w w' := by
  have HS := hide hls; clear hls
  go_enter Tryd.func4, Tryd.ntmps4
  go_wp2_with fail
  refine (head_any w he).mono ?_
  rintro e w1 ⟨rfl, hb⟩
  go_wp2_with fail
  cases hf : few20 l with
  | false =>
    refine (few2_of A c _ l false rfl hf _ hl HS.out (keepS hS hb)).mono ?_
    rintro e w2 ⟨rfl, rfl⟩
    clear hf
    go_wp2
    go_ret
    exact ⟨rfl, hb⟩
  | true =>
    refine (few2_of A c _ l true rfl hf _ hl HS.out (keepS hS hb)).mono ?_
    rintro e w2 ⟨rfl, rfl⟩
    obtain ⟨f1, f2⟩ := few20_bounds hf
    have F := hide f2; clear hf f2
    by_cases hl0 : l.length = 0
    · have x1 : ((l.length : Int) == 0) = true := ieq_t (by omega)
      clear hl0
      go_wp2
      go_ret
      exact ⟨rfl, hb⟩
    · have x1 : ((l.length : Int) == 0) = false := ieq_f (by omega)
      obtain ⟨i, hi, hil⟩ := mod_of raw l.length (by omega)
      have hz := hide (fun s (h : s ∈ l) => (by have := F.out s h; omega : s.size ≤ 1073741824))
      have hpa := hide (fun (W : World) (g : Below w.heap.size w W) => path_of A c l.length l i i rfl _ rfl W rfl (he.next g) hc (by omega) hz.out (keepS hS g) hil)
      have r1 := hide (fun (W : World) (g : Below w.heap.size w W) => root_of l.length A c l _ W rfl rfl (he.next g) hc (by omega) hz.out (keepS hS g))
      have hsm := path_small l i hil f1
      have hbt := bits_le l.length f1
      have yes := hide (incl_yes l i hil (by omega))
      have more := hide (incl_more l i hil)
      have less := hide (incl_less l i hil)
      have hpb := hide (path_isB l i)
      have zr := root_size l
      obtain ⟨b, off, rfl, hbl, hcell⟩ := hS.get hil
      have zx := F.out l[i] (List.getElem_mem hil)
      generalize hX : l[i] = x at *
      clear hX
      generalize Dg.path l i = p at *
      generalize Dg.root l = R at *
      generalize l.length = la at *
      obtain ⟨hs1, hs2⟩ := hsm
      have HS2 := hide hs2; clear hs2
      have hpz := hide (fun s (h : s ∈ p) => (by have := (hpb.out s h).2; omega : s.size ≤ 1073741824))
      have hck := hide (fun (q : List ByteArray) (A1 : Option Addr) (c1 k : Nat) (Rr : Bool) (hq : ∀ s ∈ q, s.size ≤ 1073741824) (hR : checkB R la i x q = Rr) (hk : q.length = k) (hk2 : k ≤ 1048576) (W : World) (e : Env W) (hS : Strs W W.heap.size A1 q) => check_of R la i x A1 c1 k q Rr hR W e hk hk2 hq (by omega) hS)
      have SK := hide (fun (W : World) (g : Below w.heap.size w W) => (g.cell (p := ⟨b, off + i, none⟩) hbl).trans hcell)
      go_wp2_with fail
      refine (hpa.out _ hb).mono ?_
      rintro e w2 ⟨A1, c1, n1, rfl, hn1, hc1, hSp, hb2⟩
      replace hb := bnext hb hb2; clear hb2
      have hn1' := hn1
      rw [hn1'] at hs1 HS2
      have HN1 := hide hn1; clear hn1 hn1'
      have hc2 := SK.out w2 hb
      have CR := fun (d : Nat) (os : Array Obj) => cell_regrown hc2 d os
      have q1 := hide (fun (d : Nat) (os : Array Obj) => Calls.regrown_of (r1.out (grow (redrawn w2 d) os) (bnext hb (below_regrown w2 d os))))
      have q2 := hide (fun (d : Nat) (os : Array Obj) => Calls.regrown_of (hck.out p A1 c1 n1 true hpz.out yes.out HN1.out (by omega) (grow (redrawn w2 d) os) (he.next (bnext hb (below_regrown w2 d os))) (keepS hSp (below_regrown w2 d os))))
      go_wp2_with fail
      refine wp_region_quiet_below (by kernel_rfl) (by decide +kernel) ?_
      repeat (first | go_big_quiet_step (fail) | quiet_step (fail))
      (first | go_big_quiet_step (exact q1.out _ _) | quiet_step (exact q1.out _ _))
      repeat (first | go_big_quiet_step (fail) | quiet_step (fail))
      (first | go_big_quiet_step (exact q2.out _ _) | quiet_step (exact q2.out _ _))
      repeat (first | go_big_quiet_step (fail) | quiet_step (fail))
      refine wpQuiet_nil ?_
      intro _ hw'
      obtain ⟨⟨dq, osq⟩, hw''⟩ := hw'
      subst hw''
      have hSp3 := keepS hSp (below_regrown w2 dq osq)
      have hb3 := bnext hb (below_regrown w2 dq osq)
      clear CR q1 q2 hc2 hSp hb
      generalize grow (redrawn w2 dq) osq = w3 at *
      go_wp2_with fail
      go_loop [9, 10] (fun dv nv => ∃ d n : Nat, dv = .int .i64 d ∧ nv = .int .i64 n ∧ n ≤ 20 ∧ d + Dg.bits 5 n = Dg.bits 5 la) (fun _ nv => (intOf nv).toNat)
      case atStart => exact ⟨0, la, rfl, rfl, f1, by omega⟩
      case round =>
        obtain ⟨d, n, rfl, rfl, hn, hd⟩ := hrel
        by_cases h0 : 0 < n
        · have hst := bits_step n hn (by omega)
          have HD := hide hd; have HST := hide hst; clear hd hst
          have hdl : d ≤ 5 := by have := HD.out; omega
          go_wp2
          go_round
          case rel => exact ⟨d + 1, n / 2, by go_num, by go_num, by omega, by have := HD.out; have := HST.out; omega⟩
          case measure => simp [intOf]; omega
        · obtain rfl : n = 0 := by omega
          rw [bits_zero, Nat.add_zero] at hd
          have hdl : d ≤ 5 := by omega
          have hs1' : n1 ≤ d := by omega
          have x0 : decide (d < n1) = false := decide_eq_false (by omega)
          clear hs1 hd
          go_upto_region 13 with (fail)
          go_cut [77] (fun v wx => v = .bool false ∧ Below w3.heap.size w3 wx)
          case first =>
            have hgd : Below w3.heap.size w3 w3.drew := (Below.refl _ _).drew
            have hgd2 : Below w3.heap.size w3 (w3.alloc (.cells #[] 9)).drew := (Below.more (Below.refl _ _) _).drew
            have SK3 := hide (fun (W : World) (g : Below w3.heap.size w3 W) => (⟨g, SK.out W (bnext hb3 g)⟩ : Below w3.heap.size w3 W ∧ W.cell? ⟨b, off + i, none⟩ = some (.string x)))
            have R1 := hide (fun (W : World) (g : Below w3.heap.size w3 W) => r1.out W (bnext hb3 g))
            have R2 := hide (fun (W : World) (g : Below w3.heap.size w3 W) => root_nil_of W (he.next (bnext hb3 g)))
            have KS := hide (fun (W : World) (g : Below w3.heap.size w3 W) => keepS hSp3 g)
            have hem : Dg.emptyB.size = 16 := listB_size _
            generalize hE : Dg.emptyB = E at *
            have CK := hide (fun (W : World) (g : Below w3.heap.size w3 W) (A1 : Option Addr) (c1 k : Nat) (hk : (p ++ [E]).length = k) (hk2 : k ≤ 1048576) (hS : Strs W W.heap.size A1 (p ++ [E])) => hck.out (p ++ [E]) A1 c1 k false (mem_app hpz.out (mem1 (by omega))) (more.out x E) hk hk2 W (he.next (bnext hb3 g)) hS)
            clear hE hcell hpa r1 hck SK more less yes hpb
            have hnl : p.length ≤ 20 := by have := HN1.out; omega
            have hnl2 : (p ++ [E]).length = n1 + 1 := by rw [len_snoc, HN1.out]
            have Hnl2 := hide hnl2; clear hnl2
            go_region_held3 (fun W => Below w3.heap.size w3 W ∧ W.cell? ⟨b, off + i, none⟩ = some (.string x)) (first | exact SK3.out _ (by assumption) | exact SK3.out _ (Below.more (by assumption) _) | exact SK3.out _ (Below.more (Below.more (by assumption) _) _))
              (first
                | (go_at_call 21; (with_reducible refine (R1.out _ (by first | assumption | exact Below.more (by assumption) _ | exact Below.more (Below.more (by assumption) _) _)).mono ?_); rintro e wA ⟨rfl, hbA⟩; have hgA := bnext (by first | assumption | exact Below.more (by assumption) _ | exact Below.more (Below.more (by assumption) _) _) hbA)
                | (go_at_call 21; (with_reducible refine (R2.out _ (by first | assumption | exact Below.more (by assumption) _ | exact Below.more (Below.more (by assumption) _) _)).mono ?_); rintro e wB ⟨rfl, hbB⟩; have hgB := bnext (by first | assumption | exact Below.more (by assumption) _ | exact Below.more (Below.more (by assumption) _) _) hbB)
                | (refine step_ad (by rfl) (.tmp 70) (.tmp 71) rfl w3.heap.size _ _ [] p rfl (OwnS.below (w := (w3.alloc (.cells #[] 9)).drew) (own_empty w3 9 w3.heap.size rfl (Nat.le_refl _)) hbA) A1 n1 c1 HN1.out rfl (KS.out _ hgA) (by simp; omega) hgA.size ?_; intro vF wF hF hbF hgr; have hgF := hgA.trans hbF)
                | (refine step_ad (by rfl) (.tmp 70) (.tmp 71) rfl w3.heap.size _ _ [] p rfl ((own_empty wA 9 w3.heap.size rfl hgA.size)) A1 n1 c1 HN1.out rfl (KS.out _ (Below.more hgA _)) (by simp; omega) (Below.more hgA _).size ?_; intro vF wF hF hbF hgr; have hgF := (Below.more hgA _).trans hbF)
                | (refine step_cw (by rfl) (.tmp 72) (.tmp 74) rfl E w3.heap.size _ ([] ++ p) rfl (((hF.below hbA).below hbB).alloc _) ⟨wB.heap.size, 0, none⟩ 1 rfl (new_cell wB _ _) (by simp; omega) (Below.more hgB _).size (n1 + 1) (by simp [HN1.out]) ?_; intro g4 c4 wG hG hbG; have hgG := (Below.more hgB _).trans hbG)
                | (refine step_cw (by rfl) (.tmp 72) (.tmp 74) rfl E w3.heap.size _ ([] ++ p) rfl ((hF.below hbB).alloc _) ⟨wB.heap.size, 0, none⟩ 1 rfl (new_cell wB _ _) (by simp; omega) (Below.more hgB _).size (n1 + 1) (by simp [HN1.out]) ?_; intro g4 c4 wG hG hbG; have hgG := (Below.more hgB _).trans hbG)
                | (refine step_cw (by rfl) (.tmp 72) (.tmp 74) rfl E w3.heap.size _ ([] ++ p) rfl (hF.alloc _) ⟨wF.heap.size, 0, none⟩ 1 rfl (new_cell wF _ _) (by simp; omega) (Below.more hgF _).size (n1 + 1) (by simp [HN1.out]) ?_; intro g4 c4 wG hG hbG; have hgG := (Below.more hgF _).trans hbG)
                | (refine step_cw (by rfl) (.tmp 72) (.tmp 74) rfl E w3.heap.size _ ([] ++ p) rfl (hF) ⟨wB.heap.size, 0, none⟩ 1 rfl (lit_far (new_cell wB _ _) hgr (by have h1 := sz_alloc hbA; have h2 := hbB.size; omega)) (by simp; omega) hgF.size (n1 + 1) (by simp [HN1.out]) ?_; intro g4 c4 wG hG hbG; have hgG := hgF.trans hbG)
                | (refine step_cw (by rfl) (.tmp 72) (.tmp 74) rfl E w3.heap.size _ ([] ++ p) rfl (hF) ⟨wB.heap.size, 0, none⟩ 1 rfl (lit_far (new_cell wB _ _) hgr (by have h1 := sz_alloc hbB; omega)) (by simp; omega) hgF.size (n1 + 1) (by simp [HN1.out]) ?_; intro g4 c4 wG hG hbG; have hgG := hgF.trans hbG)
                | (refine step_cw (by rfl) (.tmp 72) (.tmp 74) rfl E w3.heap.size _ ([] ++ p) rfl (hF) ⟨wB.heap.size + 1, 0, none⟩ 1 rfl (lit_far (new_cell_n (wB.alloc _) _ _ _ (by simp)) hgr (by omega)) (by simp; omega) hgF.size (n1 + 1) (by simp [HN1.out]) ?_; intro g4 c4 wG hG hbG; have hgG := hgF.trans hbG)
                | (refine step_cw (by rfl) (.tmp 72) (.tmp 74) rfl E w3.heap.size _ ([] ++ p) rfl (hF) ⟨wB.heap.size, 0, none⟩ 1 rfl (lit_far ((Below.cell (Below.news (Below.refl (wB.alloc _).heap.size (wB.alloc _)) _) (p := ⟨wB.heap.size, 0, none⟩) (by simp)).trans (new_cell wB _ _)) hgr (by omega)) (by simp; omega) hgF.size (n1 + 1) (by simp [HN1.out]) ?_; intro g4 c4 wG hG hbG; have hgG := hgF.trans hbG)
                | (go_at_call 24; (with_reducible refine (CK.out _ hgG _ _ _ Hnl2.out (by omega) hG.strs').mono ?_); rintro e wC ⟨rfl, hbC⟩; have hgC := bnext hgG hbC)
                | (go_at_call 24; (with_reducible refine (CK.out _ (bnext hgG hbB) _ _ _ Hnl2.out (by omega) (hG.below hbB).strs').mono ?_); rintro e wC ⟨rfl, hbC⟩; have hgC := bnext (bnext hgG hbB) hbC))
            all_goals go_wp2
            all_goals go_meet
            all_goals exact ⟨rfl, hgC⟩
          case rest =>
            obtain ⟨rfl, hgc⟩ := hcut
            have hbc := bnext hb3 hgc
            have hSpc := keepS hSp3 hgc
            have hcc := SK.out wc hbc
            have CR := fun (d : Nat) (os : Array Obj) => cell_regrown hcc d os
            have q1 := hide (fun (d : Nat) (os : Array Obj) => Calls.regrown_of (r1.out (grow (redrawn wc d) os) (bnext hbc (below_regrown wc d os))))
            by_cases h1 : n1 = 0
            · have b1 : ((n1 : Int) == 0) = true := ieq_t (by omega)
              have b2 : ((la : Int) == 1) = true := ieq_t (by have := HS2.out.1 h1; omega)
              clear h1
              go_wp2_with fail
              refine wp_region_quiet_below (by kernel_rfl) (by decide +kernel) ?_
              repeat (first | go_big_quiet_step (exact q1.out _ _) | quiet_step (exact q1.out _ _))
              refine wpQuiet_nil ?_
              intro _ hw'
              obtain ⟨⟨dr, osr⟩, hw''⟩ := hw'
              subst hw''
              go_wp2
              go_ret
              exact ⟨rfl, bnext hbc (below_regrown wc dr osr)⟩
            · have b2 : ((la : Int) == 1) = false := ieq_f (by intro h; exact h1 (HS2.out.2 (by omega)))
              obtain ⟨j, rfl⟩ : ∃ j, n1 = j + 1 := ⟨n1 - 1, by omega⟩
              have hj20 : j ≤ 20 := by omega
              have b1 : ((j : Int) + 1 == 0) = false := ieq_f (by omega)
              have s1 := slice_to A1 (j + 1) c1 j (by omega)
              have htl : (p.take j).length = j := by rw [List.length_take, HN1.out]; omega
              have q2 := hide (fun (d : Nat) (os : Array Obj) => Calls.regrown_of (hck.out (p.take j) A1 c1 j false (fun s h => hpz.out s (List.mem_of_mem_take h)) (less.out x j (by rw [HN1.out]; omega)) htl (by omega) (grow (redrawn wc d) os) (he.next (bnext hbc (below_regrown wc d os))) ((keepS hSpc (below_regrown wc d os)).take _)))
              clear h1 htl
              go_wp2_with fail
              refine wp_region_quiet_below (by kernel_rfl) (by decide +kernel) ?_
              repeat (first | go_big_quiet_step (fail) | quiet_step (fail))
              (first | go_big_quiet_step (exact q1.out _ _) | quiet_step (exact q1.out _ _))
              repeat (first | go_big_quiet_step (fail) | quiet_step (fail))
              (first | go_big_quiet_step (exact q2.out _ _) | quiet_step (exact q2.out _ _))
              repeat (first | go_big_quiet_step (fail) | quiet_step (fail))
              refine wpQuiet_nil ?_
              intro _ hw'
              obtain ⟨⟨dr, osr⟩, hw''⟩ := hw'
              subst hw''
              go_wp2
              go_ret
              exact ⟨rfl, bnext hbc (below_regrown wc dr osr)⟩
end Go.Proofs.YtmmpndijfbbnnaaDoor
