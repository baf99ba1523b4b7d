/- Texts of the reference, walked. -/
import Derived.Test.YtmmpndijfbbnnaaDoorTexts
namespace Go.Proofs.YtmmpndijfbbnnaaDoor
open Go Go.RowKit Go.Sort
theorem OwnS.bounds {w : World} {B g n cap : Nat} {l : List ByteArray} (h : OwnS w B (.slice (some ⟨g, 0, none⟩) n cap) l) : B ≤ g ∧ g < w.heap.size := by
  rcases h.cases with ⟨h, _⟩ | ⟨g', cap', h1, h2, h3, _, _, _⟩
  · injection h with h _ _; cases h
  · injection h1 with h1 _ _
    injection h1 with h1
    injection h1 with h1 _ _
    subst h1
    exact ⟨h2, h3⟩
/-- What a call hands back that makes a list of strings. -/
theorem made_of {f : FuncId} {args : Array Value} {w W : World} {l : List ByteArray} {n : Nat} (hn : l.length = n) (g : Below w.heap.size w W)
    (h : Calls Tryd.prog f args W fun e w' => (∃ g cap, e = .returned (.slice (some ⟨g, 0, none⟩) l.length cap) ∧ OwnS w' W.heap.size (.slice (some ⟨g, 0, none⟩) l.length cap) l) ∧ Below W.heap.size W w') :
    Calls Tryd.prog f args W fun e w' => (∃ g cap, e = .returned (.slice (some ⟨g, 0, none⟩) n cap) ∧ OwnS w' w.heap.size (.slice (some ⟨g, 0, none⟩) n cap) l ∧ W.heap.size ≤ g ∧ g < w'.heap.size) ∧ Below W.heap.size W w' := by
  subst hn
  exact h.mono fun e w' ⟨⟨b, cap, h1, h2⟩, h3⟩ => ⟨⟨b, cap, h1, h2.base g.size, h2.bounds.1, h2.bounds.2⟩, h3⟩
theorem len_snoc (l : List ByteArray) (x : ByteArray) : (l ++ [x]).length = l.length + 1 := by rw [List.length_append, List.length_singleton]
theorem sz_alloc {B : Nat} {w w' : World} {o : Obj} (h : Below B (w.alloc o) w') : w.heap.size + 1 ≤ w'.heap.size := by
  have := h.size
  rwa [World.size_alloc] at this
/-! A literal's cell behind an append that may have written another row of the call's own. -/
theorem lit_b {w wP wQ wF : World} {s : ByteArray} {T : TypeId} {ga : Nat} (hbP : Below (w.alloc (.cells #[.string s] T)).heap.size (w.alloc (.cells #[.string s] T)) wP) (hbQ : Below wP.heap.size wP wQ) (ba : (w.alloc (.cells #[.string s] T)).heap.size ≤ ga) (hgr : wQ.grownBy wF (some ga)) :
    wF.cell? ⟨w.heap.size, 0, none⟩ = some (.string s) := by
  have h1 := sz_alloc hbP
  have h2 := hbQ.size
  rw [World.size_alloc] at ba
  rw [hgr.cell_far ⟨w.heap.size, 0, none⟩ (by show w.heap.size < _; omega) (fun h => by have h' : w.heap.size = ga := Option.some.inj h; omega), hbQ.cell (p := ⟨w.heap.size, 0, none⟩) (by show w.heap.size < _; omega), hbP.cell (p := ⟨w.heap.size, 0, none⟩) (by simp)]
  exact new_cell _ _ _
theorem lit_c {wP wQ wF : World} {s : ByteArray} {T : TypeId} {ga : Nat} (bA : ga < wP.heap.size) (hbQ : Below (wP.alloc (.cells #[.string s] T)).heap.size (wP.alloc (.cells #[.string s] T)) wQ) (hgr : wQ.grownBy wF (some ga)) :
    wF.cell? ⟨wP.heap.size, 0, none⟩ = some (.string s) := by
  have h2 := sz_alloc hbQ
  rw [hgr.cell_far ⟨wP.heap.size, 0, none⟩ (by show wP.heap.size < _; omega) (fun h => by have h' : wP.heap.size = ga := Option.some.inj h; omega), hbQ.cell (p := ⟨wP.heap.size, 0, none⟩) (by simp)]
  exact new_cell _ _ _
theorem lit_d {wP wQ wF : World} {s : ByteArray} {T : TypeId} {ga : Nat} (bA : ga < wP.heap.size) (hsz : wP.heap.size ≤ wQ.heap.size) (hgr : (wQ.alloc (.cells #[.string s] T)).grownBy wF (some ga)) :
    wF.cell? ⟨wQ.heap.size, 0, none⟩ = some (.string s) := by
  rw [hgr.cell_far ⟨wQ.heap.size, 0, none⟩ (by simp) (fun h => by have h' : wQ.heap.size = ga := Option.some.inj h; omega)]
  exact new_cell _ _ _
set_option maxRecDepth 100000 in
set_option maxHeartbeats 1000000 in
theorem texts_any (k : Nat) : ∀ (A : Option Addr) (c : Nat) (l : List ByteArray) (w : World), l.length = k → k ≤ c → k ≤ 1048576 → (∀ s ∈ l, s.size ≤ 1048576) → Strs w w.heap.size A l →
    Calls Tryd.prog 29 #[.slice A k c] w fun e w' => (∃ g cap, e = .returned (.slice (some ⟨g, 0, none⟩) (Dg.texts l).length cap) ∧ OwnS w' w.heap.size (.slice (some ⟨g, 0, none⟩) (Dg.texts l).length cap) (Dg.texts l)) ∧ Below w.heap.size w w' := by
  induction k using Nat.strongRecOn with
  | _ k ih =>
  intro A c l w hk hc hkb hs hS
  by_cases h0 : k = 0
  · obtain rfl : l = [] := List.length_eq_zero_iff.1 (hk.trans h0)
    subst h0
    clear ih hs hS
    rw [Dg.texts_nil]
    generalize hX : Dg.jB [Dg.sEmpty] = X
    have HX := hide hX; clear hX
    go_enter Tryd.func29, Tryd.ntmps29
    go_wp2_with fail
    refine (joined_new [Dg.sEmpty] _ _ 1 _ rfl (len1 _) (mem1 (by decide)) X HX.out w rfl _ rfl).mono ?_
    rintro e w1 ⟨rfl, hb1⟩
    go_wp2
    go_ret
    exact ⟨⟨_, _, rfl, own_new w1 X _ hb1.size⟩, hb1.alloc hb1.size _⟩
  · by_cases h1 : k = 1
    · obtain ⟨s, rfl⟩ : ∃ s, l = [s] := List.length_eq_one_iff.1 (hk.trans h1)
      subst h1
      clear ih
      obtain ⟨b, off, rfl, hbl, hcell⟩ := hS.get (k := 0) (by simp)
      simp only [List.getElem_cons_zero, Nat.add_zero] at hcell
      have hss := hs s (List.mem_singleton.2 rfl)
      have hm := hide (mem2 (a := Dg.sLeaf) (n := 1048576) (by decide) hss)
      clear hs
      rw [Dg.texts_one]
      generalize hX : Dg.jB [Dg.sLeaf, s] = X
      have HX := hide hX; clear hX
      go_enter Tryd.func29, Tryd.ntmps29
      go_wp2_with fail
      refine (joined_new [Dg.sLeaf, s] _ _ 2 _ rfl (len2 _ _) hm.out X HX.out w rfl _ rfl).mono ?_
      rintro e w1 ⟨rfl, hb1⟩
      go_wp2
      go_ret
      exact ⟨⟨_, _, rfl, own_new w1 X _ hb1.size⟩, hb1.alloc hb1.size _⟩
    · have g1 := Dg.half_pos k
      have g2 := Dg.half_lt k (by omega)
      have ht := hide (Dg.texts_more l (by omega))
      rw [hk] at ht
      have HS := hide hs; clear hs
      have r1 := hide (fun (W : World) (g : Below w.heap.size w W) => (rroot_of (Dg.half k) A c (l.take (Dg.half k)) _ W (by rw [List.length_take]; omega) rfl (by omega) (by omega) (fun s hs' => HS.out s (List.mem_of_mem_take hs')) (keepS (hS.take _) g)))
      have r2 := hide (fun (W : World) (g : Below w.heap.size w W) => (rroot_of (k - Dg.half k) (offA A (Dg.half k) c) (c - Dg.half k) (l.drop (Dg.half k)) _ W (by rw [List.length_drop, hk]) rfl (by omega) (by omega) (fun s hs' => HS.out s (List.mem_of_mem_drop hs')) (keepS (hS.drop (by omega) _) g)))
      have t1 := hide (fun (W : World) (g : Below w.heap.size w W) => made_of rfl g (ih (Dg.half k) g2 A c (l.take (Dg.half k)) W (by rw [List.length_take]; omega) (by omega) (by omega) (fun s hs' => HS.out s (List.mem_of_mem_take hs')) (keepS (hS.take _) g)))
      have t2 := hide (fun (W : World) (g : Below w.heap.size w W) => made_of rfl g (ih (k - Dg.half k) (by omega) (offA A (Dg.half k) c) (c - Dg.half k) (l.drop (Dg.half k)) W (by rw [List.length_drop, hk]) (by omega) (by omega) (fun s hs' => HS.out s (List.mem_of_mem_drop hs')) (keepS (hS.drop (by omega) _) g)))
      have n1 := (texts_len (Dg.half k) (l.take (Dg.half k)) (by rw [List.length_take]; omega)).1
      have n1' := (texts_len (Dg.half k) (l.take (Dg.half k)) (by rw [List.length_take]; omega)).2.1
      have n2 := (texts_len (k - Dg.half k) (l.drop (Dg.half k)) (by rw [List.length_drop]; omega)).1
      have n2' := (texts_len (k - Dg.half k) (l.drop (Dg.half k)) (by rw [List.length_drop]; omega)).2.1
      have z1 := root_size (l.take (Dg.half k))
      have z2 := root_size (l.drop (Dg.half k))
      clear ih hS
      go_enter Tryd.func29, Tryd.ntmps29
      go_wp2_with fail
      refine (rhalf_any k (by omega) _).mono ?_
      rintro e w1 ⟨rfl, rfl⟩
      generalize Dg.half k = m at *
      generalize Dg.root (l.take m) = X at *
      generalize Dg.root (l.drop m) = Y at *
      generalize Dg.texts (l.take m) = T1 at *
      generalize Dg.texts (l.drop m) = T2 at *
      have hm := hide (mem3 (a := Dg.sNode) (b := X) (c := Y) (n := 1048576) (by decide) (by omega) (by omega))
      generalize hJ : Dg.jB [Dg.sNode, X, Y] = J at *
      have HJ := hide hJ; clear hJ
      have s1 := slice_to A k c m (by omega)
      have s2 := slice_from A k c m (by omega)
      have hdr : Below w.heap.size w w.drew := (Below.refl _ _).drew
      go_upto_region 7 with (fail)
      go_cut [5] (fun v wx => v = .string J ∧ Below w.heap.size w wx)
      case first =>
        go_region_held3 (fun W => Below w.heap.size w W) (first | assumption | exact Below.more (by assumption) _)
          (first
            | (go_at_call 22; (with_reducible refine (r1.out _ (by first | assumption | exact Below.more (by assumption) _)).mono ?_); rintro e wR ⟨rfl, hbR⟩; have hgR := bnext (by first | assumption | exact Below.more (by assumption) _) hbR)
            | (go_at_call 22; (with_reducible refine (r2.out _ (by first | assumption | exact Below.more (by assumption) _)).mono ?_); rintro e wR2 ⟨rfl, hbR2⟩; have hgR2 := bnext (by first | assumption | exact Below.more (by assumption) _) hbR2)
            | (go_at_call 65; refine (joined_new [Dg.sNode, X, Y] _ _ 3 _ rfl (len3 _ _ _) hm.out J HJ.out wR2 rfl _ rfl).mono ?_; rintro e wJ ⟨rfl, hbJ⟩; have hgJ := bnext hgR2 hbJ))
        all_goals go_wp2
        all_goals go_meet
        all_goals exact ⟨rfl, hgJ⟩
      case rest =>
        obtain ⟨rfl, hgc⟩ := hcut
        have hgd : Below w.heap.size w wc.drew := hgc.drew
        clear hm HJ r1 r2 z1 z2 hdr
        go_wp2_with fail
        go_region_held3 (fun W => Below w.heap.size w W) (first | assumption | exact Below.more (by assumption) _)
          (first
            | (go_at_call 29; (with_reducible refine (t1.out _ (by first | assumption | exact Below.more (by assumption) _)).mono ?_); rintro e wP ⟨⟨ga, ca, rfl, hO1, ba, bA⟩, hbP⟩; have hgP := bnext (by first | assumption | exact Below.more (by assumption) _) hbP)
            | (go_at_call 29; (with_reducible refine (t2.out _ (by first | assumption | exact Below.more (by assumption) _)).mono ?_); rintro e wQ ⟨⟨gb, cb, rfl, hO2, bb, bB⟩, hbQ⟩; have hgQ := bnext (by first | assumption | exact Below.more (by assumption) _) hbQ)
            | (refine step_ld rfl (.tmp 36) (.tmp 40) rfl w.heap.size _ _ T1 T2 rfl (hO1.below hbQ) gb cb rfl hO2 (by omega) (by omega) hgQ.size ?_; intro g3 c3 wF hF hbF hgr _; have hgF := hgQ.trans hbF)
            | (refine step_ld rfl (.tmp 36) (.tmp 40) rfl w.heap.size _ _ T1 T2 rfl ((hO1.alloc _).below hbQ) gb cb rfl hO2 (by omega) (by omega) hgQ.size ?_; intro g3 c3 wF hF hbF hgr _; have hgF := hgQ.trans hbF)
            | (refine step_ld rfl (.tmp 36) (.tmp 40) rfl w.heap.size _ _ T1 T2 rfl ((hO1.below hbQ).alloc _) gb cb rfl (hO2.alloc _) (by omega) (by omega) (Below.more hgQ _).size ?_; intro g3 c3 wF hF hbF hgr _; have hgF := (Below.more hgQ _).trans hbF)
            | (refine step_cd rfl (.tmp 41) (.tmp 43) rfl J w.heap.size _ (T1 ++ T2) rfl (hF.alloc _) ⟨wF.heap.size, 0, none⟩ 1 rfl (new_cell wF _ _) (by rw [List.length_append]; omega) (Below.more hgF _).size ?_; intro g4 c4 wG hG hbG; have hgG := (Below.more hgF _).trans hbG)
            | (refine step_cd rfl (.tmp 41) (.tmp 43) rfl J w.heap.size _ (T1 ++ T2) rfl hF ⟨wc.heap.size, 0, none⟩ 1 rfl (lit_b (w := wc.drew) hbP hbQ ba hgr) (by rw [List.length_append]; omega) hgF.size ?_; intro g4 c4 wG hG hbG; have hgG := hgF.trans hbG)
            | (refine step_cd rfl (.tmp 41) (.tmp 43) rfl J w.heap.size _ (T1 ++ T2) rfl hF ⟨wP.heap.size, 0, none⟩ 1 rfl (lit_c bA hbQ hgr) (by rw [List.length_append]; omega) hgF.size ?_; intro g4 c4 wG hG hbG; have hgG := hgF.trans hbG)
            | (refine step_cd rfl (.tmp 41) (.tmp 43) rfl J w.heap.size _ (T1 ++ T2) rfl hF ⟨wQ.heap.size, 0, none⟩ 1 rfl (lit_d bA hbQ.size hgr) (by rw [List.length_append]; omega) hgF.size ?_; intro g4 c4 wG hG hbG; have hgG := hgF.trans hbG))
        all_goals go_wp2
        all_goals go_ret
        all_goals rw [ht.out, len_snoc, List.length_append]
        all_goals first | exact ⟨⟨_, _, rfl, hG⟩, hgG⟩ | (rw [List.length_append] at hG; exact ⟨⟨_, _, rfl, hG⟩, hgG⟩)
end Go.Proofs.YtmmpndijfbbnnaaDoor
