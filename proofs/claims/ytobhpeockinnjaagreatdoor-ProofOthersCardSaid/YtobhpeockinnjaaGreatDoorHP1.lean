/- Walks and laws of this seat, several texts in one: P28, Texts2, PTexts, P29, POP. No conditions but those that each theorem states. -/
import Derived.Test.YtobhpeockinnjaaGreatDoorHA7
import Derived.SizedLaws
/- The laws ProofSound and ProofOthers in plain Lean. No conditions but those that each theorem states. -/
namespace Go.Proofs.YtobhpeockinnjaaGreatDoor
open Go Go.RowKit Go.Sort Go.Maps
theorem kindS_inj {x y : Dg.It} (hx : kindOk x = true) (hy : kindOk y = true) (h : kindS x = kindS y) : x.kind = y.kind := by
  unfold kindOk at hx hy
  simp only [Bool.or_eq_true, beq_iff_eq] at hx hy
  unfold kindS at h
  by_cases h1 : x.kind = 1 <;> by_cases h2 : y.kind = 1
  · rw [h1, h2]
  · rw [if_pos h1, if_neg h2] at h; exact absurd h (by decide)
  · rw [if_neg h1, if_pos h2] at h; exact absurd h (by decide)
  · omega
theorem leafI_inj {x y : Dg.It} (hx : kindOk x = true) (hy : kindOk y = true) (zx : ∀ s ∈ leafS x, s.size ≤ 1048576) (zy : ∀ s ∈ leafS y, s.size ≤ 1048576) (h : Dg.leafI x = Dg.leafI y) : x.kind = y.kind ∧ x.id = y.id ∧ x.parent = y.parent ∧ x.north = y.north ∧ x.south = y.south := by
  rw [leafI_eq, leafI_eq] at h
  have h1 := (Dg.joinedL_eq (leafS x) (leafS y) (fun s hs => Dg.leZ (zx s hs)) (fun s hs => Dg.leZ (zy s hs))).1 h
  unfold leafS at h1
  simp only [List.cons.injEq, and_true] at h1
  exact ⟨kindS_inj hx hy h1.1, h1.2⟩
theorem bare_kind {l : List Dg.It} (hv : Dg.validC l = true) {k : Nat} (hk : k < l.length) : kindOk l[k] = true := by
  have hp := Dg.valid_proper hv l[k] (List.getElem_mem hk)
  unfold kindOk
  rcases Dg.proper_kind hp with ⟨e, _⟩ | ⟨e, _⟩ <;> rw [e] <;> rfl
theorem leaves_small {l : List Dg.It} (h500 : ∀ x ∈ l, ∀ s ∈ Dg.fieldsI x, s.size ≤ 500) : ∀ s ∈ Dg.leavesC l, s.size ≤ 1048576 := fun s hs => by
  unfold Dg.leavesC at hs
  split at hs
  · unfold Dg.leavesOf at hs
    obtain ⟨x, hx, rfl⟩ := List.mem_map.1 hs
    exact leafI_size2 (leafS_size (by decide) (fun s hs => Nat.le_trans (h500 x (List.mem_filter.1 hx).1 s hs) (by decide)))
  · cases hs
/-- What a proof that holds says of its index, and of the texts. -/
theorem shown_at {l : List Dg.It} (hv : Dg.validC l = true) (h500 : ∀ x ∈ l, ∀ s ∈ Dg.fieldsI x, s.size ≤ 500) {p : Pf} (hz : ∀ s ∈ leafS p.it, s.size ≤ 10000) (hc : p.count = ((Dg.leavesC l).length : Nat)) {i k : Nat} (hi : p.idx = (i : Int)) (hk : k < l.length) (hg : l[k].gone = false) (hik : idxN l k = i)
    (h : checkP (Dg.root (Dg.leavesC l)) p = true) : p.it = Dg.bareI l[k] ∨ Dg.Shown (Dg.texts (Dg.leavesC l) ++ Dg.pathTexts (Dg.leavesC l).length i (Dg.leafI p.it) p.path.reverse) := by
  have hL : Dg.leavesC l = Dg.leavesOf l := by unfold Dg.leavesC; rw [if_pos hv]
  have h0 := leaf_at l hk hg
  rw [hik, ← hL] at h0
  obtain ⟨h1, h2⟩ := List.getElem?_eq_some_iff.1 h0
  unfold checkP checkB at h
  simp only [Bool.and_eq_true, decide_eq_true_eq, Bool.not_eq_true'] at h
  obtain ⟨a1, a2, a3, ⟨_, _, _⟩, a5, _, a7⟩ := h
  rw [hc, hi, Int.toNat_natCast, Int.toNat_natCast] at a7
  rcases Dg.path_binds (Dg.leavesC l).length (Dg.leavesC l) i (Dg.leafI p.it) p.path.reverse h1 rfl (Dg.leZ (leafI_size2 hz)) (fun s hs => Dg.leZ (leaves_small h500 s hs)) (fun s hs => by rw [allDig_16 a5 s (List.mem_reverse.1 hs)]; decide) a7 with h3 | h3
  · left
    rw [h2] at h3
    obtain ⟨e1, e2, e3, e4, e5⟩ := leafI_inj a1 (bare_kind hv hk) (fun s hs => Nat.le_trans (hz s hs) (by decide)) (fun s hs => leafS_size (z := 1048576) (by decide) (fun s hs => Nat.le_trans (h500 l[k] (List.getElem_mem hk) s hs) (by decide)) s hs) h3
    exact it_ext e1 e2 e3 a2 e4 e5 (a3.trans hg.symm)
  · exact Or.inr h3
/-- The item at an index. -/
theorem idx_item (l : List Dg.It) (i m : Nat) (hm : m ≤ l.length) (hi : i < idxN l m) : ∃ k, ∃ hk : k < l.length, l[k].gone = false ∧ idxN l k = i := by
  induction m with
  | zero => exact absurd hi (by unfold idxN; simp)
  | succ m ih =>
    have hml : m < l.length := by omega
    by_cases h : i < idxN l m
    · exact ih (by omega) h
    · rw [idxN_succ hml] at hi
      cases hg : l[m].gone with
      | true => rw [hg, if_pos rfl] at hi; omega
      | false => rw [hg, if_neg (by decide)] at hi; exact ⟨m, hml, hg, by omega⟩
/-- The item of a proof is found at its index. -/
def foundP (l : List Dg.It) (p : Pf) (k : Nat) : Prop := ∃ hk : k < l.length, l[k].gone = false ∧ ((idxN l k : Nat) : Int) = p.idx ∧ Dg.bareI l[k] = p.it
theorem sound_idx {root : ByteArray} {p : Pf} (h : checkP root p = true) : 0 ≤ p.idx ∧ p.idx < p.count ∧ p.path.length = Dg.length p.count.toNat p.idx.toNat ∧ p.count ≤ 1000000 := by
  unfold checkP checkB at h
  simp only [Bool.and_eq_true, decide_eq_true_eq] at h
  exact ⟨h.2.2.2.1.2.1, h.2.2.2.1.2.2, h.2.2.2.2.2.1, h.2.2.2.1.1⟩
theorem sound_at {l : List Dg.It} (hv : Dg.validC l = true) (h500 : ∀ x ∈ l, ∀ s ∈ Dg.fieldsI x, s.size ≤ 500) {p : Pf} (hz : ∀ s ∈ leafS p.it, s.size ≤ 10000) (hc : p.count = ((Dg.leavesC l).length : Nat)) (h : checkP (Dg.root (Dg.leavesC l)) p = true) {i : Nat} (hi : p.idx = (i : Int)) :
    (∃ k, foundP l p k) ∨ Dg.Shown (Dg.texts (Dg.leavesC l) ++ Dg.pathTexts (Dg.leavesC l).length i (Dg.leafI p.it) p.path.reverse) := by
  obtain ⟨b1, b2, _, _⟩ := sound_idx h
  have b3 := idxN_end hv
  obtain ⟨k, hk, hg, hki⟩ := idx_item l i l.length (Nat.le_refl _) (by omega)
  rcases shown_at hv h500 hz hc hi hk hg hki h with h3 | h3
  · exact Or.inl ⟨k, hk, hg, by rw [hki, hi], h3.symm⟩
  · exact Or.inr h3
end Go.Proofs.YtobhpeockinnjaaGreatDoor
/- Texts of the reference, walked. -/
namespace Go.Proofs.YtobhpeockinnjaaGreatDoor
open Go Go.RowKit Go.Sort
set_option maxRecDepth 100000 in
set_option maxHeartbeats 1000000 in
theorem texts_any (k : Nat) : ∀ (A : Option Addr) (c : Nat) (l : List ByteArray) (w : World), l.length = k → k ≤ c → k ≤ 1048576 → (∀ s ∈ l, s.size ≤ 1048576) → Strs w w.heap.size A l →
    Calls Tryz.prog 35 #[.slice A k c] w fun e w' => (∃ g cap, e = .returned (.slice (some ⟨g, 0, none⟩) (Dg.texts l).length cap) ∧ OwnS w' w.heap.size (.slice (some ⟨g, 0, none⟩) (Dg.texts l).length cap) (Dg.texts l)) ∧ Below w.heap.size w w' := by
  induction k using Nat.strongRecOn with
  | _ k ih =>
  intro A c l w hk hc hkb hs hS
  by_cases h0 : k = 0
  · obtain rfl : l = [] := List.length_eq_zero_iff.1 (hk.trans h0)
    subst h0
    clear ih hs hS
    rw [Dg.texts_nil]
    generalize hX : Dg.jB [Dg.sEmpty] = X
    have HX := hide hX; clear hX
    go_enter Tryz.func35, Tryz.ntmps35
    go_wp2_with fail
    refine (joined_new [Dg.sEmpty] _ _ 1 _ rfl (len1 _) (mem1 (by decide)) X HX.out w rfl _ rfl).mono ?_
    rintro e w1 ⟨rfl, hb1⟩
    go_wp2
    go_ret
    exact ⟨⟨_, _, rfl, own_new w1 X _ hb1.size⟩, hb1.alloc hb1.size _⟩
  · by_cases h1 : k = 1
    · obtain ⟨s, rfl⟩ : ∃ s, l = [s] := List.length_eq_one_iff.1 (hk.trans h1)
      subst h1
      clear ih
      obtain ⟨b, off, rfl, hbl, hcell⟩ := hS.get (k := 0) (by simp)
      simp only [List.getElem_cons_zero, Nat.add_zero] at hcell
      have hss := hs s (List.mem_singleton.2 rfl)
      have hm := hide (mem2 (a := Dg.sLeaf) (n := 1048576) (by decide) hss)
      clear hs
      rw [Dg.texts_one]
      generalize hX : Dg.jB [Dg.sLeaf, s] = X
      have HX := hide hX; clear hX
      go_enter Tryz.func35, Tryz.ntmps35
      go_wp2_with fail
      refine (joined_new [Dg.sLeaf, s] _ _ 2 _ rfl (len2 _ _) hm.out X HX.out w rfl _ rfl).mono ?_
      rintro e w1 ⟨rfl, hb1⟩
      go_wp2
      go_ret
      exact ⟨⟨_, _, rfl, own_new w1 X _ hb1.size⟩, hb1.alloc hb1.size _⟩
    · have g1 := Dg.half_pos k
      have g2 := Dg.half_lt k (by omega)
      have ht := hide (Dg.texts_more l (by omega))
      rw [hk] at ht
      have HS := hide hs; clear hs
      have r1 := hide (fun (W : World) (g : Below w.heap.size w W) => (rroot_of (Dg.half k) A c (l.take (Dg.half k)) _ W (by rw [List.length_take]; omega) rfl (by omega) (by omega) (fun s hs' => HS.out s (List.mem_of_mem_take hs')) (keepS (hS.take _) g)))
      have r2 := hide (fun (W : World) (g : Below w.heap.size w W) => (rroot_of (k - Dg.half k) (offA A (Dg.half k) c) (c - Dg.half k) (l.drop (Dg.half k)) _ W (by rw [List.length_drop, hk]) rfl (by omega) (by omega) (fun s hs' => HS.out s (List.mem_of_mem_drop hs')) (keepS (hS.drop (by omega) _) g)))
      have t1 := hide (fun (W : World) (g : Below w.heap.size w W) => made_of rfl g (ih (Dg.half k) g2 A c (l.take (Dg.half k)) W (by rw [List.length_take]; omega) (by omega) (by omega) (fun s hs' => HS.out s (List.mem_of_mem_take hs')) (keepS (hS.take _) g)))
      have t2 := hide (fun (W : World) (g : Below w.heap.size w W) => made_of rfl g (ih (k - Dg.half k) (by omega) (offA A (Dg.half k) c) (c - Dg.half k) (l.drop (Dg.half k)) W (by rw [List.length_drop, hk]) (by omega) (by omega) (fun s hs' => HS.out s (List.mem_of_mem_drop hs')) (keepS (hS.drop (by omega) _) g)))
      have n1 := (texts_len (Dg.half k) (l.take (Dg.half k)) (by rw [List.length_take]; omega)).1
      have n1' := (texts_len (Dg.half k) (l.take (Dg.half k)) (by rw [List.length_take]; omega)).2.1
      have n2 := (texts_len (k - Dg.half k) (l.drop (Dg.half k)) (by rw [List.length_drop]; omega)).1
      have n2' := (texts_len (k - Dg.half k) (l.drop (Dg.half k)) (by rw [List.length_drop]; omega)).2.1
      have z1 := root_size (l.take (Dg.half k))
      have z2 := root_size (l.drop (Dg.half k))
      clear ih hS
      go_enter Tryz.func35, Tryz.ntmps35
      go_wp2_with fail
      refine (rhalf_any k (by omega) _).mono ?_
      rintro e w1 ⟨rfl, rfl⟩
      generalize Dg.half k = m at *
      generalize Dg.root (l.take m) = X at *
      generalize Dg.root (l.drop m) = Y at *
      generalize Dg.texts (l.take m) = T1 at *
      generalize Dg.texts (l.drop m) = T2 at *
      have hm := hide (mem3 (a := Dg.sNode) (b := X) (c := Y) (n := 1048576) (by decide) (by omega) (by omega))
      generalize hJ : Dg.jB [Dg.sNode, X, Y] = J at *
      have HJ := hide hJ; clear hJ
      have s1 := slice_to A k c m (by omega)
      have s2 := slice_from A k c m (by omega)
      have hdr : Below w.heap.size w w.drew := (Below.refl _ _).drew
      go_upto_region 7 with (fail)
      go_cut [5] (fun v wx => v = .string J ∧ Below w.heap.size w wx)
      case first =>
        go_region_held3 (fun W => Below w.heap.size w W) (first | assumption | exact Below.more (by assumption) _)
          (first
            | (go_at_call 72; (with_reducible refine (r1.out _ (by first | assumption | exact Below.more (by assumption) _)).mono ?_); rintro e wR ⟨rfl, hbR⟩; have hgR := bnext (by first | assumption | exact Below.more (by assumption) _) hbR)
            | (go_at_call 72; (with_reducible refine (r2.out _ (by first | assumption | exact Below.more (by assumption) _)).mono ?_); rintro e wR2 ⟨rfl, hbR2⟩; have hgR2 := bnext (by first | assumption | exact Below.more (by assumption) _) hbR2)
            | (go_at_call 70; refine (joined_new [Dg.sNode, X, Y] _ _ 3 _ rfl (len3 _ _ _) hm.out J HJ.out wR2 rfl _ rfl).mono ?_; rintro e wJ ⟨rfl, hbJ⟩; have hgJ := bnext hgR2 hbJ))
        all_goals go_wp2
        all_goals go_meet
        all_goals exact ⟨rfl, hgJ⟩
      case rest =>
        obtain ⟨rfl, hgc⟩ := hcut
        have hgd : Below w.heap.size w wc.drew := hgc.drew
        clear hm HJ r1 r2 z1 z2 hdr
        go_wp2_with fail
        go_region_held3 (fun W => Below w.heap.size w W) (first | assumption | exact Below.more (by assumption) _)
          (first
            | (go_at_call 35; (with_reducible refine (t1.out _ (by first | assumption | exact Below.more (by assumption) _)).mono ?_); rintro e wP ⟨⟨ga, ca, rfl, hO1, ba, bA⟩, hbP⟩; have hgP := bnext (by first | assumption | exact Below.more (by assumption) _) hbP)
            | (go_at_call 35; (with_reducible refine (t2.out _ (by first | assumption | exact Below.more (by assumption) _)).mono ?_); rintro e wQ ⟨⟨gb, cb, rfl, hO2, bb, bB⟩, hbQ⟩; have hgQ := bnext (by first | assumption | exact Below.more (by assumption) _) hbQ)
            | (refine step_ld rfl (.tmp 36) (.tmp 40) rfl w.heap.size _ _ T1 T2 rfl (hO1.below hbQ) gb cb rfl hO2 (by omega) (by omega) hgQ.size ?_; intro g3 c3 wF hF hbF hgr _; have hgF := hgQ.trans hbF)
            | (refine step_ld rfl (.tmp 36) (.tmp 40) rfl w.heap.size _ _ T1 T2 rfl ((hO1.alloc _).below hbQ) gb cb rfl hO2 (by omega) (by omega) hgQ.size ?_; intro g3 c3 wF hF hbF hgr _; have hgF := hgQ.trans hbF)
            | (refine step_ld rfl (.tmp 36) (.tmp 40) rfl w.heap.size _ _ T1 T2 rfl ((hO1.below hbQ).alloc _) gb cb rfl (hO2.alloc _) (by omega) (by omega) (Below.more hgQ _).size ?_; intro g3 c3 wF hF hbF hgr _; have hgF := (Below.more hgQ _).trans hbF)
            | (refine step_cd rfl (.tmp 41) (.tmp 43) rfl J w.heap.size _ (T1 ++ T2) rfl (hF.alloc _) ⟨wF.heap.size, 0, none⟩ 1 rfl (new_cell wF _ _) (by rw [List.length_append]; omega) (Below.more hgF _).size ?_; intro g4 c4 wG hG hbG; have hgG := (Below.more hgF _).trans hbG)
            | (refine step_cd rfl (.tmp 41) (.tmp 43) rfl J w.heap.size _ (T1 ++ T2) rfl hF ⟨wc.heap.size, 0, none⟩ 1 rfl (lit_b (w := wc.drew) hbP hbQ ba hgr) (by rw [List.length_append]; omega) hgF.size ?_; intro g4 c4 wG hG hbG; have hgG := hgF.trans hbG)
            | (refine step_cd rfl (.tmp 41) (.tmp 43) rfl J w.heap.size _ (T1 ++ T2) rfl hF ⟨wP.heap.size, 0, none⟩ 1 rfl (lit_c bA hbQ hgr) (by rw [List.length_append]; omega) hgF.size ?_; intro g4 c4 wG hG hbG; have hgG := hgF.trans hbG)
            | (refine step_cd rfl (.tmp 41) (.tmp 43) rfl J w.heap.size _ (T1 ++ T2) rfl hF ⟨wQ.heap.size, 0, none⟩ 1 rfl (lit_d bA hbQ.size hgr) (by rw [List.length_append]; omega) hgF.size ?_; intro g4 c4 wG hG hbG; have hgG := hgF.trans hbG))
        all_goals go_wp2
        all_goals go_ret
        all_goals rw [ht.out, len_snoc, List.length_append]
        all_goals first | exact ⟨⟨_, _, rfl, hG⟩, hgG⟩ | (rw [List.length_append] at hG; exact ⟨⟨_, _, rfl, hG⟩, hgG⟩)
end Go.Proofs.YtobhpeockinnjaaGreatDoor
/- PathTexts and LinkTexts of the reference. -/
namespace Go.Proofs.YtobhpeockinnjaaGreatDoor
open Go Go.RowKit Go.Sort
theorem pt_len (n : Nat) : ∀ (i : Nat) (s : ByteArray) (r : List ByteArray), 1 ≤ n → i < n → (Dg.pathTexts n i s r).length = Dg.length n i + 1 := by
  induction n using Nat.strongRecOn with
  | _ n ih =>
  intro i s r h1 hi
  by_cases h : n ≤ 1
  · rw [Dg.pathTexts_one _ _ _ _ h, Dg.length_one _ _ h]; rfl
  · have g1 := Dg.half_pos n
    have g2 := Dg.half_lt n (by omega)
    by_cases hh : i < Dg.half n
    · rw [Dg.pathTexts_fst n i s r (by omega) hh, Dg.length_fst n i (by omega) hh, len_snoc, ih (Dg.half n) g2 i s r.tail g1 hh]; omega
    · rw [Dg.pathTexts_snd n i s r (by omega) hh, Dg.length_snd n i (by omega) hh, len_snoc, ih (n - Dg.half n) (by omega) (i - Dg.half n) s r.tail (by omega) (by omega)]; omega
theorem pt_size (n : Nat) : ∀ (i : Nat) (s : ByteArray) (r : List ByteArray), s.size ≤ 1048576 → (∀ x ∈ r, x.size ≤ 1048576) → ∀ t ∈ Dg.pathTexts n i s r, t.size ≤ 4194304 := by
  have hhd : ∀ r : List ByteArray, (∀ s ∈ r, s.size ≤ 1048576) → (r.headD ⟨#[]⟩).size ≤ 1048576 := fun r h => by
    cases r with
    | nil => decide
    | cons a r => exact h a (List.mem_cons_self ..)
  induction n using Nat.strongRecOn with
  | _ n ih =>
  intro i s r hs hr t ht
  by_cases h : n ≤ 1
  · rw [Dg.pathTexts_one _ _ _ _ h, List.mem_singleton] at ht
    rw [ht]; exact jB_size _ (by simp) (mem2 (by decide) hs)
  · have g1 := Dg.half_pos n
    have g2 := Dg.half_lt n (by omega)
    by_cases hh : i < Dg.half n
    · rw [Dg.pathTexts_fst n i s r (by omega) hh] at ht
      rcases List.mem_append.1 ht with ht | ht
      · exact ih (Dg.half n) g2 i s r.tail hs (fun x hx => hr x (List.mem_of_mem_tail hx)) t ht
      · rw [List.mem_singleton] at ht
        rw [ht]; exact jB_size _ (by simp) (mem3 (by decide) (by rw [up_sz _ _ (Dg.leafB s) _ (listB_size _)]; decide) (hhd r hr))
    · rw [Dg.pathTexts_snd n i s r (by omega) hh] at ht
      rcases List.mem_append.1 ht with ht | ht
      · exact ih (n - Dg.half n) (by omega) _ s r.tail hs (fun x hx => hr x (List.mem_of_mem_tail hx)) t ht
      · rw [List.mem_singleton] at ht
        rw [ht]; exact jB_size _ (by simp) (mem3 (by decide) (hhd r hr) (by rw [up_sz _ _ (Dg.leafB s) _ (listB_size _)]; decide))
set_option maxRecDepth 100000 in
set_option maxHeartbeats 1000000 in
theorem rpt_any (n : Nat) : ∀ (i : Nat) (A : Option Addr) (c k : Nat) (s : ByteArray) (p : List ByteArray) (w : World), p.length = k → Dg.length n i = k → 1 ≤ n → i < n → n ≤ 1048576 → k ≤ c →
    s.size ≤ 1048576 → (∀ x ∈ p, x.size ≤ 1048576) → Strs w w.heap.size A p →
    Calls Tryz.prog 36 #[.int .i64 n, .int .i64 i, .string s, .slice A k c] w fun e w' => (∃ v, e = .returned v ∧ OwnS w' w.heap.size v (Dg.pathTexts n i s p.reverse)) ∧ Below w.heap.size w w' := by
  induction n using Nat.strongRecOn with
  | _ n ih =>
  intro i A c k s p w hpk hlk h1 hi hn hc hss hs hS
  by_cases hone : n = 1
  · subst hone
    clear ih hs
    rw [Dg.pathTexts_one _ _ _ _ (Nat.le_refl _)]
    have hm := hide (mem2 (a := Dg.sLeaf) (n := 1048576) (by decide) hss)
    generalize hX : Dg.jB [Dg.sLeaf, s] = X
    have HX := hide hX; clear hX
    go_enter Tryz.func36, Tryz.ntmps36
    go_wp2_with fail
    refine (joined_new [Dg.sLeaf, s] _ _ 2 _ rfl (len2 _ _) hm.out X HX.out w rfl _ rfl).mono ?_
    rintro e w1 ⟨rfl, hb1⟩
    go_wp2
    go_ret
    exact ⟨⟨_, rfl, own_new w1 X _ hb1.size⟩, hb1.alloc hb1.size _⟩
  · have g1 := Dg.half_pos n
    have g2 := Dg.half_lt n (by omega)
    have n1 : ((n : Int) == 1) = false := ieq_f (by omega)
    have pf := hide (fun h => (Dg.length_fst n i (by omega) h).symm.trans hlk)
    have ps := hide (fun h => (Dg.length_snd n i (by omega) h).symm.trans hlk)
    have uf := hide (fun h => Dg.pathTexts_fst n i s p.reverse (by omega) h)
    have us := hide (fun h => Dg.pathTexts_snd n i s p.reverse (by omega) h)
    have hk1 : 1 ≤ k := by
      by_cases him : i < Dg.half n
      · have := pf.out him; omega
      · have := ps.out him; omega
    have hkn : k ≤ n := hlk ▸ length_le n i
    clear hlk
    subst hpk
    rw [rev_tail, rev_head p (by omega)] at uf us
    have hlast := hs p[p.length - 1] (List.getElem_mem (by omega))
    have i1 := hide (fun (W : World) (h : i < Dg.half n) (hST : Strs W W.heap.size A (p.take (p.length - 1))) => ih (Dg.half n) g2 i A c (p.length - 1) s (p.take (p.length - 1)) W (by rw [List.length_take]; omega) (by have := pf.out h; omega) g1 h (by omega) (by omega) hss (fun s h => hs s (List.mem_of_mem_take h)) hST)
    have g4 : 1 ≤ n - Dg.half n := by omega
    have i2 := hide (fun (W : World) (h : ¬ i < Dg.half n) (hST : Strs W W.heap.size A (p.take (p.length - 1))) => ih (n - Dg.half n) (by omega) (i - Dg.half n) A c (p.length - 1) s (p.take (p.length - 1)) W (by rw [List.length_take]; omega) (by have := ps.out h; omega) g4 (by omega) (by omega) (by omega) hss (fun s h => hs s (List.mem_of_mem_take h)) hST)
    have u1 := hide (fun (W : World) (h : i < Dg.half n) (hST : Strs W W.heap.size A (p.take (p.length - 1))) => rup_any (Dg.half n) i A c (p.length - 1) (Dg.leafB s) (p.take (p.length - 1)) _ W (by rw [List.length_take]; omega) (by have := pf.out h; omega) rfl g1 h (by omega) (by omega) (by rw [Dg.leafB, listB_size]; decide) (fun s h => hs s (List.mem_of_mem_take h)) hST)
    have u2 := hide (fun (W : World) (h : ¬ i < Dg.half n) (hST : Strs W W.heap.size A (p.take (p.length - 1))) => rup_any (n - Dg.half n) (i - Dg.half n) A c (p.length - 1) (Dg.leafB s) (p.take (p.length - 1)) _ W (by rw [List.length_take]; omega) (by have := ps.out h; omega) rfl g4 (by omega) (by omega) (by omega) (by rw [Dg.leafB, listB_size]; decide) (fun s h => hs s (List.mem_of_mem_take h)) hST)
    have z1 := up_sz (Dg.half n) i (Dg.leafB s) (p.take (p.length - 1)).reverse (listB_size _)
    have z2 := up_sz (n - Dg.half n) (i - Dg.half n) (Dg.leafB s) (p.take (p.length - 1)).reverse (listB_size _)
    have q1 : i < Dg.half n → (Dg.pathTexts (Dg.half n) i s (p.take (p.length - 1)).reverse).length ≤ 1048577 := fun h => by rw [pt_len _ _ _ _ g1 h]; have := length_le (Dg.half n) i; omega
    have q2 : ¬ i < Dg.half n → (Dg.pathTexts (n - Dg.half n) (i - Dg.half n) s (p.take (p.length - 1)).reverse).length ≤ 1048577 := fun h => by rw [pt_len _ _ _ _ g4 (by omega)]; have := length_le (n - Dg.half n) (i - Dg.half n); omega
    have Q1 := hide q1; have Q2 := hide q2; clear q1 q2
    clear ih hs
    have hS1 := hS.take (p.length - 1)
    obtain ⟨b, off, rfl, hbl, hcell⟩ := hS.get (k := p.length - 1) (by omega)
    go_enter Tryz.func36, Tryz.ntmps36
    go_wp2_with fail
    refine (rhalf_any n (by omega) _).mono ?_
    rintro e w1 ⟨rfl, rfl⟩
    generalize Dg.half n = m at *
    generalize hq : p.take (p.length - 1) = q at *
    clear hq
    generalize Dg.up m i (Dg.leafB s) q.reverse = X at *
    generalize Dg.up (n - m) (i - m) (Dg.leafB s) q.reverse = Y at *
    generalize Dg.pathTexts m i s q.reverse = T1 at *
    generalize Dg.pathTexts (n - m) (i - m) s q.reverse = T2 at *
    generalize p[p.length - 1] = last at *
    clear hS
    generalize p.length = k at *
    obtain ⟨j, rfl⟩ : ∃ j, k = j + 1 := ⟨k - 1, by omega⟩
    rw [Nat.add_sub_cancel] at hcell i1 i2 u1 u2
    have s1 := slice_to (some ⟨b, off, none⟩) (j + 1) c j (by omega)
    by_cases him : i < m
    · have hr := hide (uf.out him); clear uf us
      have hl := Q1.out him; clear Q1 Q2
      generalize hJ : Dg.jB [Dg.sNode, X, last] = J at *
      have HJ := hide hJ; clear hJ
      have hm := hide (mem3 (a := Dg.sNode) (b := X) (c := last) (n := 1048576) (by decide) (by omega) hlast)
      go_wp2_with fail
      refine (i1.out _ him hS1).mono ?_
      rintro e w1 ⟨⟨v, rfl, hO⟩, hb1⟩
      go_wp2_with fail
      refine (rleaf_any s hss _).mono ?_
      rintro e w2 ⟨rfl, hb2⟩
      have hb12 := bnext hb1 hb2
      go_wp2_with fail
      refine (u1.out _ him (keepS hS1 hb12)).mono ?_
      rintro e w3 ⟨rfl, hb3⟩
      have hb13 := bnext hb12 hb3
      go_wp2_with fail
      refine (joined_new [Dg.sNode, X, last] _ _ 3 _ rfl (len3 _ _ _) hm.out J HJ.out w3 rfl _ rfl).mono ?_
      rintro e w4 ⟨rfl, hb4⟩
      have hb14 := bnext hb13 hb4
      have hO4 := ((hO.below hb2).below hb3).below hb4
      go_wp2_with (at_builtin; refine step_s w4 rfl (.tmp 38) (.tmp 48) rfl J w.heap.size _ T1 rfl hO4 rfl (by omega) hb14.size ?_; intro v' w5 hO5 hb5)
      go_ret
      rw [hr.out]
      exact ⟨⟨_, rfl, hO5⟩, hb14.trans hb5⟩
    · have hr := hide (us.out him); clear uf us
      have hl := Q2.out him; clear Q1 Q2
      generalize hJ : Dg.jB [Dg.sNode, last, Y] = J at *
      have HJ := hide hJ; clear hJ
      have hm := hide (mem3 (a := Dg.sNode) (b := last) (c := Y) (n := 1048576) (by decide) hlast (by omega))
      have c1 : (n : Int) - (m : Int) = ((n - m : Nat) : Int) := by omega
      have c2 : (i : Int) - (m : Int) = ((i - m : Nat) : Int) := by omega
      go_wp2_with fail
      refine (i2.out _ him hS1).mono ?_
      rintro e w1 ⟨⟨v, rfl, hO⟩, hb1⟩
      go_wp2_with fail
      refine (rleaf_any s hss _).mono ?_
      rintro e w2 ⟨rfl, hb2⟩
      have hb12 := bnext hb1 hb2
      go_wp2_with fail
      refine (u2.out _ him (keepS hS1 hb12)).mono ?_
      rintro e w3 ⟨rfl, hb3⟩
      have hb13 := bnext hb12 hb3
      go_wp2_with fail
      refine (joined_new [Dg.sNode, last, Y] _ _ 3 _ rfl (len3 _ _ _) hm.out J HJ.out w3 rfl _ rfl).mono ?_
      rintro e w4 ⟨rfl, hb4⟩
      have hb14 := bnext hb13 hb4
      have hO4 := ((hO.below hb2).below hb3).below hb4
      go_wp2_with (at_builtin; refine step_s w4 rfl (.tmp 58) (.tmp 72) rfl J w.heap.size _ T2 rfl hO4 rfl (by omega) hb14.size ?_; intro v' w5 hO5 hb5)
      go_ret
      rw [hr.out]
      exact ⟨⟨_, rfl, hO5⟩, hb14.trans hb5⟩
end Go.Proofs.YtobhpeockinnjaaGreatDoor
/- The law ProofSound. No conditions but those that each theorem states. -/
namespace Go.Proofs.YtobhpeockinnjaaGreatDoor
open Go Go.RowKit Go.Sort Go.Maps
attribute [local go_sem] Oper.semAt_some
/-- What the law holds: the code and the proof in their variables, the items, the path, the tables, the leaves. -/
structure SO (g : Nat) (A : Option Addr) (n c : Nat) (l : List Dg.It) (p : Pf) (A2 : Option Addr) (m2 c2 : Nat) (A7 : Option Addr) (L : List ByteArray) (X : World) : Prop where
  r1 : X.heap[g]? = some (.cells #[.slice A n c] 24 (0, 0))
  r2 : X.heap[g + 1]? = some (.cells #[.int .i64 p.count, .int .i64 p.idx, .int .i64 p.it.kind, .string p.it.id, .string p.it.parent, .string p.it.number, .string p.it.north, .string p.it.south, .bool p.it.gone, .slice A2 m2 c2] 29 (0, 0))
  its : Its X X.heap.size A l
  pth : Strs X X.heap.size A2 p.path
  env : Env X
  lis : Strs X X.heap.size A7 L
theorem SO.below {g : Nat} {A : Option Addr} {n c : Nat} {l : List Dg.It} {p : Pf} {A2 : Option Addr} {m2 c2 : Nat} {A7 : Option Addr} {L : List ByteArray} {X X' : World} (h : SO g A n c l p A2 m2 c2 A7 L X) (hb : Below X.heap.size X X') : SO g A n c l p A2 m2 c2 A7 L X' :=
  ⟨iNext h.r1 hb, iNext h.r2 hb, h.its.keep hb, keepS h.pth hb, h.env.next hb, keepS h.lis hb⟩
theorem SO.leaves {g : Nat} {A : Option Addr} {n c : Nat} {l : List Dg.It} {p : Pf} {A2 : Option Addr} {m2 c2 : Nat} {A7 : Option Addr} {L : List ByteArray} {X X' : World} (h : SO g A n c l p A2 m2 c2 A7 L X) (hb : Below X.heap.size X X') {A8 : Option Addr} {M : List ByteArray} (hM : Strs X' X'.heap.size A8 M) : SO g A n c l p A2 m2 c2 A8 M X' :=
  ⟨iNext h.r1 hb, iNext h.r2 hb, h.its.keep hb, keepS h.pth hb, h.env.next hb, hM⟩
theorem foundP_step {l : List Dg.It} {p : Pf} {k : Nat} (h : ∀ j, j < k → ¬ foundP l p j) (hk : ¬ foundP l p k) : ∀ j, j < k + 1 → ¬ foundP l p j := fun j hj => by
  by_cases e : j = k
  · rw [e]; exact hk
  · exact h j (by omega)
theorem bare_mk (y : Dg.It) (hg : y.gone = false) : Dg.bareI y = ⟨y.kind, y.id, y.parent, ⟨#[]⟩, y.north, y.south, false⟩ := by rw [← hg]; rfl
attribute [-go_sem] run_eql_struct in
set_option maxRecDepth 100000 in
set_option maxHeartbeats 16000000 in
theorem law_sound44 (l : List Dg.It) (A : Option Addr) (n c : Nat) (hl : l.length = n) (hw : ∀ x ∈ l, ItW x) (hn : n ≤ 9223372036854775807) (p : Pf) (A2 : Option Addr) (m2 c2 : Nat) (hm2 : p.path.length = m2) (hc2 : m2 ≤ c2) (hpz : m2 ≤ 9223372036854775807) (hpt : ItW p.it) (hsum : p.it.id.size + p.it.parent.size + p.it.number.size ≤ 9223372036854775807)
    (w : World) (he : Env w) (hI : Its w w.heap.size A l) (hP : Strs w w.heap.size A2 p.path) :
    Calls Tryz.prog 5 #[.agg #[.slice A n c], .agg #[.int .i64 p.count, .int .i64 p.idx, .int .i64 p.it.kind, .string p.it.id, .string p.it.parent, .string p.it.number, .string p.it.north, .string p.it.south, .bool p.it.gone, .slice A2 m2 c2]] w fun e w' => e = .returned (.bool true) ∧ Below w.heap.size w w' := by
  have hmx : Tryz.prog.follows .mixedOrders = true := by kernel_rfl
  have hx0 := Below.news (Below.refl w.heap.size w) (.cells #[.slice A n c] 24)
  have hx1 := Below.news (Below.refl (w.alloc (.cells #[.slice A n c] 24)).heap.size (w.alloc (.cells #[.slice A n c] 24))) (.cells #[.int .i64 p.count, .int .i64 p.idx, .int .i64 p.it.kind, .string p.it.id, .string p.it.parent, .string p.it.number, .string p.it.north, .string p.it.south, .bool p.it.gone, .slice A2 m2 c2] 29)
  have hb1 := bnext hx0 hx1
  have hr2 := heap_alloc_new (w.alloc (.cells #[.slice A n c] 24)) (.cells #[.int .i64 p.count, .int .i64 p.idx, .int .i64 p.it.kind, .string p.it.id, .string p.it.parent, .string p.it.number, .string p.it.north, .string p.it.south, .bool p.it.gone, .slice A2 m2 c2] 29)
  have hs1 : (w.alloc (.cells #[.slice A n c] 24)).heap.size = w.heap.size + 1 := by simp
  rw [hs1] at hr2
  have hS1 : SO w.heap.size A n c l p A2 m2 c2 none [] ((w.alloc (.cells #[.slice A n c] 24)).alloc (.cells #[.int .i64 p.count, .int .i64 p.idx, .int .i64 p.it.kind, .string p.it.id, .string p.it.parent, .string p.it.number, .string p.it.north, .string p.it.south, .bool p.it.gone, .slice A2 m2 c2] 29)) := ⟨iNext (heap_alloc_new w _) hx1, hr2, hI.keep hb1, keepS hP hb1, he.next hb1, Strs.nil _ _ _⟩
  have HL := hide hl; have HW := hide hw; have HM2 := hide hm2; have HC2 := hide hc2
  clear hl hw hI he hm2 hc2 hx0 hx1 hr2 hs1 hP
  go_enter Tryz.func5, Tryz.ntmps5
  go_wp2_with fail
  generalize (w.alloc (.cells #[.slice A n c] 24)).alloc (.cells #[.int .i64 p.count, .int .i64 p.idx, .int .i64 p.it.kind, .string p.it.id, .string p.it.parent, .string p.it.number, .string p.it.north, .string p.it.south, .bool p.it.gone, .slice A2 m2 c2] 29) = w1 at *
  refine (head44_of w1 hS1.env).mono ?_
  rintro e w2 ⟨rfl, hx2⟩
  have hS2 := hS1.below hx2
  have hb2 := bnext hb1 hx2
  clear hS1 hb1 hx2
  have hc1 := iCells0 hS2.r1
  obtain ⟨F, hF⟩ : ∃ F, fewC l 20 = F := ⟨_, rfl⟩
  go_wp2_with fail
  refine (small_of l A n c HL.out hn w2 hS2.its F hF).mono ?_
  rintro e w3 ⟨rfl, hx3⟩
  have hS3 := hS2.below hx3
  have hb3 := bnext hb2 hx3
  clear hS2 hb2 hx3 hc1
  cases F with
  | false =>
    clear hF
    go_wp2
    go_ret
    exact ⟨rfl, hb3⟩
  | true =>
    obtain ⟨n20, z20⟩ := kfew hF
    rw [HL.out] at n20
    have ZL := hide z20
    clear hF z20
    obtain ⟨G, hG⟩ : ∃ G, fewP p = G := ⟨_, rfl⟩
    obtain ⟨z0, z1, z2, z3, z4, z5, z6, z7, z8, z9⟩ := jCells10 hS3.r2
    go_wp2_with fail
    refine (rfewP_of p A2 m2 c2 HM2.out hpz ⟨hpt.iz, hpt.pz, hpt.nz⟩ hsum w3 hS3.pth G hG).mono ?_
    rintro e w4 ⟨rfl, hx4⟩
    have hS4 := hS3.below hx4
    have hb4 := bnext hb3 hx4
    clear hS3 hb3 hx4 z0 z1 z2 z3 z4 z5 z6 z7 z8 z9 hsum hpt
    cases G with
    | false =>
      clear hG
      go_wp2
      go_ret
      exact ⟨rfl, hb4⟩
    | true =>
      obtain ⟨PZ, p30, PP⟩ := fewP_leaf hG
      rw [HM2.out] at p30
      have HPZ := hide PZ; have HPP := hide PP
      clear hG PZ PP
      obtain ⟨V, hV⟩ : ∃ V, Dg.validC l = V := ⟨_, rfl⟩
      have hc1 := iCells0 hS4.r1
      go_wp2_with fail
      refine (Code.valid_of l A n c HL.out HW.out (by omega) w4 hS4.its V hV).mono ?_
      rintro e w5 ⟨rfl, hx5⟩
      have hS5 := hS4.below hx5
      have hb5 := bnext hb4 hx5
      clear hS4 hb4 hx5 hc1
      cases V with
      | false =>
        clear hV
        go_wp2
        go_ret
        exact ⟨rfl, hb5⟩
      | true =>
        have HV := hide hV
        clear hV
        have hc1 := iCells0 hS5.r1
        obtain ⟨L, hL⟩ : ∃ L, Dg.leavesC l = L := ⟨_, rfl⟩
        obtain ⟨m, hm⟩ : ∃ m, L.length = m := ⟨_, rfl⟩
        obtain ⟨R, hR⟩ : ∃ R, Dg.root L = R := ⟨_, rfl⟩
        have hmn : m ≤ n := by
          rw [← hm, ← hL, ← idxN_end HV.out, ← HL.out]
          exact idxN_le _ _
        have hLz : ∀ s ∈ L, s.size ≤ 1048576 := by
          rw [← hL]
          exact leaves_small ZL.out
        have HL7 := hide hL; have HM := hide hm; have HR := hide hR; have HLZ := hide hLz
        clear hL hm hR hLz
        go_wp2_with fail
        refine (Code.leaves_of l A n c HL.out HW.out (by omega) w5 hS5.env hS5.its (few_up2 ZL.out (by decide)) L HL7.out).mono ?_
        rintro e w6 ⟨⟨A7, c7, rfl, hc7, hs7⟩, hx⟩
        rw [HM.out] at hc7 ⊢
        have hS6 : SO w.heap.size A n c l p A2 m2 c2 A7 L w6 := hS5.leaves hx hs7
        have hb6 := bnext hb5 hx
        clear hS5 hb5 hx hs7 hc1
        go_upto_region 5 with (fail)
        by_cases hcm : p.count = (m : Int)
        · have hne1 : (p.count != (m : Int)) = false := bne_eq_false_iff_eq.2 hcm
          obtain ⟨C, hC⟩ : ∃ C, checkP R p = C := ⟨_, rfl⟩
          have HC := hide hC; have HCM := hide hcm
          clear hC hcm
          try clear hc1
          try clear hc2
          refine wp_region_noPanic ?_
          refine wp_region_L (SO w.heap.size A n c l p A2 m2 c2 A7 L) 12 hmx ?_
          have hdr := (Below.refl w6.heap.size w6).drew
          have hS7 : (SO w.heap.size A n c l p A2 m2 c2 A7 L) w6.drew := hS6.below hdr
          have hb7 := bnext hb6 hdr
          clear hdr hS6 hb6
          generalize w6.drew = w7 at *
          refine wpAnyL_take (i := 0) (f0 := 14) (v := ?_) rfl (by decide +kernel) (by decide +kernel) (by decide +kernel) (by decide +kernel) (by decide +kernel) (fun _ _ _ h => h) (Or.inl ⟨by rfl, ?_⟩) hS7 ?_
          rotate_left
          · intro wS hS; go_simp; (try with_reducible rfl)
          simp only [Act.put, List.getElem_toArray, List.getElem_cons_zero, List.setIfInBounds_toArray, List.set_cons_succ, List.set_cons_zero]
          refine wpAnyL_take (i := 1) (f0 := 14) (v := ?_) rfl (by decide +kernel) (by decide +kernel) (by decide +kernel) (by decide +kernel) (by decide +kernel) (fun _ _ _ h => h) (Or.inl ⟨by rfl, ?_⟩) hS7 ?_
          rotate_left
          · intro wS hS; obtain ⟨z0, z1, z2, z3, z4, z5, z6, z7, z8, z9⟩ := jCells10 hS.r2; go_simp; (try with_reducible rfl)
          simp only [Act.put, List.getElem_toArray, List.getElem_cons_succ, List.getElem_cons_zero, List.setIfInBounds_toArray, List.set_cons_succ, List.set_cons_zero]
          refine wpAnyL_take (i := 2) (f0 := 14) (v := ?_) rfl (by decide +kernel) (by decide +kernel) (by decide +kernel) (by decide +kernel) (by decide +kernel) (fun _ _ _ h => h) (Or.inl ⟨by rfl, ?_⟩) hS7 ?_
          rotate_left
          · intro wS hS; go_simp; (try with_reducible rfl)
          simp only [Act.put, List.getElem_toArray, List.getElem_cons_succ, List.getElem_cons_zero, List.setIfInBounds_toArray, List.set_cons_succ, List.set_cons_zero]
          refine wpAnyL_take (i := 3) (f0 := 14) (v := ?_) rfl (by decide +kernel) (by decide +kernel) (by decide +kernel) (by decide +kernel) (by decide +kernel) (fun _ _ _ h => h) (Or.inl ⟨by rfl, ?_⟩) hS7 ?_
          rotate_left
          · intro wS hS; go_simp; (try with_reducible rfl)
          simp only [Act.put, List.getElem_toArray, List.getElem_cons_succ, List.getElem_cons_zero, List.setIfInBounds_toArray, List.set_cons_succ, List.set_cons_zero]
          refine wpAnyL_take (i := 4) (f0 := 14) (v := ?_) rfl (by decide +kernel) (by decide +kernel) (by decide +kernel) (by decide +kernel) (by decide +kernel) (fun _ _ _ h => h) (Or.inl ⟨by rfl, ?_⟩) hS7 ?_
          rotate_left
          · intro wS hS; go_simp; (try with_reducible rfl)
          simp only [Act.put, List.getElem_toArray, List.getElem_cons_succ, List.getElem_cons_zero, List.setIfInBounds_toArray, List.set_cons_succ, List.set_cons_zero]
          refine wpAnyL_take (i := 5) (f0 := 14) (v := ?_) rfl (by decide +kernel) (by decide +kernel) (by decide +kernel) (by decide +kernel) (by decide +kernel) (fun _ _ _ h => h) (Or.inl ⟨by rfl, ?_⟩) hS7 ?_
          rotate_left
          · intro wS hS; go_simp; (try with_reducible rfl)
          simp only [Act.put, List.getElem_toArray, List.getElem_cons_succ, List.getElem_cons_zero, List.setIfInBounds_toArray, List.set_cons_succ, List.set_cons_zero]
          refine wpAnyL_take (i := 6) (f0 := 14) (v := ?_) rfl (by decide +kernel) (by decide +kernel) (by decide +kernel) (by decide +kernel) (by decide +kernel) (fun _ _ _ h => h) (Or.inl ⟨by rfl, ?_⟩) hS7 ?_
          rotate_left
          · intro wS hS; go_simp; (try with_reducible rfl)
          simp only [Act.put, List.getElem_toArray, List.getElem_cons_succ, List.getElem_cons_zero, List.setIfInBounds_toArray, List.set_cons_succ, List.set_cons_zero]
          refine wpAnyL_take (i := 8) (f0 := 14) (v := ?_) rfl (by decide +kernel) (by decide +kernel) (by decide +kernel) (by decide +kernel) (by decide +kernel) (fun _ _ _ h => h) (Or.inl ⟨by rfl, ?_⟩) hS7 ?_
          rotate_left
          · intro wS hS; obtain ⟨z0, z1, z2, z3, z4, z5, z6, z7, z8, z9⟩ := jCells10 hS.r2; go_simp; (try with_reducible rfl)
          simp only [Act.put, List.getElem_toArray, List.getElem_cons_succ, List.getElem_cons_zero, List.setIfInBounds_toArray, List.set_cons_succ, List.set_cons_zero]
          refine wpAnyL_one (i := 7) (by decide +kernel) (by rfl) (fun K hK => ?_)
          rw [if_pos (by rfl)]
          go_simp
          refine (root_of m A7 c7 L R w7 HM.out HR.out hS7.env hc7 (by omega) (fun s hs => Nat.le_trans (HLZ.out s hs) (by decide)) hS7.lis).mono ?_
          rintro e w8 ⟨rfl, hx8⟩
          have hS8 : (SO w.heap.size A n c l p A2 m2 c2 A7 L) w8 := hS7.below hx8
          have hb8 := bnext hb7 hx8
          refine hK.out _ _ (Or.inr hS8) ?_
          clear hK K hS7 hb7 hx8
          try simp only [Act.put, List.getElem_toArray, List.getElem_cons_succ, List.getElem_cons_zero, List.setIfInBounds_toArray, List.set_cons_succ, List.set_cons_zero]
          refine wpAnyL_one (i := 9) (by decide +kernel) (by rfl) (fun K hK => ?_)
          rw [if_pos (by rfl)]
          go_simp
          refine (pcheck_of R p A2 m2 c2 HM2.out (by omega) (fun s hs => Nat.le_trans (HPP.out s hs) (by decide)) HPZ.out w8 hS8.env hS8.pth C HC.out).mono ?_
          rintro e w9 ⟨rfl, hx9⟩
          have hS9 : (SO w.heap.size A n c l p A2 m2 c2 A7 L) w9 := hS8.below hx9
          have hb9 := bnext hb8 hx9
          refine hK.out _ _ (Or.inr hS9) ?_
          clear hK K hS8 hb8 hx9
          try simp only [Act.put, List.getElem_toArray, List.getElem_cons_succ, List.getElem_cons_zero, List.setIfInBounds_toArray, List.set_cons_succ, List.set_cons_zero]
          refine wpAnyL_take (i := 10) (f0 := 14) (v := ?_) rfl (by decide +kernel) (by decide +kernel) (by decide +kernel) (by decide +kernel) (by decide +kernel) (fun _ _ _ h => h) (Or.inl ⟨by rfl, ?_⟩) hS9 ?_
          rotate_left
          · intro wS hS; go_simp; (try with_reducible rfl)
          simp only [Act.put, List.getElem_toArray, List.getElem_cons_succ, List.getElem_cons_zero, List.setIfInBounds_toArray, List.set_cons_succ, List.set_cons_zero]
          refine wpAnyL_take (i := 11) (f0 := 14) (v := ?_) rfl (by decide +kernel) (by decide +kernel) (by decide +kernel) (by decide +kernel) (by decide +kernel) (fun _ _ _ h => h) (Or.inl ⟨by rfl, ?_⟩) hS9 ?_
          rotate_left
          · intro wS hS; go_simp; (try with_reducible rfl)
          simp only [Act.put, List.getElem_toArray, List.getElem_cons_succ, List.getElem_cons_zero, List.setIfInBounds_toArray, List.set_cons_succ, List.set_cons_zero]
          refine wpAnyL_done (by decide +kernel) ?_ _
          refine NoPanic.normal ?_
          have hS : SO w.heap.size A n c l p A2 m2 c2 A7 L _ := hS9
          clear hne1
          cases C with
          | false =>
            go_wp2
            go_ret
            exact ⟨rfl, hb9⟩
          | true =>
            obtain ⟨i0, i1, i2, i3⟩ := sound_idx HC.out
            rw [HCM.out] at i1
            obtain ⟨i, hi⟩ := Int.eq_ofNat_of_zero_le i0
            have i0' : ¬ p.idx < 0 := by omega
            have i1' : ¬ (m : Int) ≤ p.idx := by omega
            have him : i < m := by omega
            have hlen : m2 = Dg.length m i := by
              rw [HCM.out, hi, Int.toNat_natCast, Int.toNat_natCast, HM2.out] at i2
              exact i2
            have HLEN := hide hlen
            have HI := hide hi
            have HSD := hide (sound_at HV.out ZL.out HPZ.out (by rw [HL7.out, HM.out]; exact HCM.out) (by rw [HL7.out, HR.out]; exact HC.out) hi)
            rw [HL7.out, HM.out] at HSD
            obtain ⟨z0, z1, z2, z3, z4, z5, z6, z7, z8, z9⟩ := jCells10 hS.r2
            clear hi hlen i2 i3
            go_wp2
            clear z0 z1 z2 z3 z4 z5 z6 z7 z8 z9 i0 i1 i0' i1'
            go_loopw [7, 8] (fun nv kv wr => ∃ k : Nat, k ≤ n ∧ nv = .int .i64 ((idxN l k : Nat) : Int) ∧ kv = .int .i64 (k : Int) ∧ SO w.heap.size A n c l p A2 m2 c2 A7 L wr ∧ Below w.heap.size w wr ∧ Hid (∀ j, j < k → ¬ foundP l p j)) (fun _ kv _ => n - (intOf kv).toNat)
            case atStart => exact ⟨0, by omega, by rfl, rfl, hS, hb9, fun j hj => by omega⟩
            case round =>
              clear hS hb9
              obtain ⟨k, hk, rfl, rfl, hS, hb, HNO⟩ := hrel
              have hc1 := iCells0 hS.r1
              by_cases hlt : k < n
              · have hkl : k < l.length := by rw [HL.out]; exact hlt
                obtain ⟨b, off, rfl⟩ := hS.its.some hkl
                have hkn : (k : Int) < (n : Int) := by omega
                have hk0' : (0 : Int) ≤ (k : Int) := by omega
                obtain ⟨y, hy⟩ : ∃ y, l[k] = y := ⟨_, rfl⟩
                obtain ⟨_, y0, y1, y2, y3, y4, y5, y6⟩ := hS.its.cells hkl y hy
                have hx7 := Below.news (Below.refl wr.heap.size wr) (.cells #[.int .i64 y.kind, .string y.id, .string y.parent, .string y.number, .string y.north, .string y.south, .bool y.gone] 26)
                have hr7 := heap_alloc_new wr (.cells #[.int .i64 y.kind, .string y.id, .string y.parent, .string y.number, .string y.north, .string y.south, .bool y.gone] 26)
                obtain ⟨q, hq⟩ : ∃ q, idxN l k = q := ⟨_, rfl⟩
                have hqk : q ≤ k := by rw [← hq]; exact idxN_le _ _
                have HQ1 := hide (show idxN l (k + 1) = q + (if y.gone = true then 0 else 1) by rw [idxN_succ hkl, hq, hy])
                have HFD := hide (show foundP l p k ↔ y.gone = false ∧ ((q : Nat) : Int) = p.idx ∧ Dg.bareI y = p.it by
                  unfold foundP
                  rw [← hy, ← hq]
                  exact ⟨fun h => h.2, fun h => ⟨hkl, h⟩⟩)
                rw [hq]
                clear hq hy
                go_upto_region 14 with (fail)
                have HSK := hide (fun X (hX : Below wr.heap.size wr X) => hS.below hX)
                have HBK := hide (fun X (hX : Below wr.heap.size wr X) => bnext hb hX)
                clear hS hb y0 y1 y2 y3 y4 y5 y6 hc1
                generalize hW7 : wr.alloc (.cells #[.int .i64 y.kind, .string y.id, .string y.parent, .string y.number, .string y.north, .string y.south, .bool y.gone] 26) = w7 at *
                have hz7 : w7.heap.size = wr.heap.size + 1 := by rw [← hW7]; simp
                clear hW7
                generalize wr.heap.size = b7 at *
                cases gy : y.gone with
                | true =>
                  rw [gy] at HQ1 HFD hr7
                  obtain ⟨t0, t1, t2, t3, t4, t5, t6⟩ := iCells hr7
                  have hS9 := HSK.out _ hx7
                  have hb9 := HBK.out _ hx7
                  clear hx7 hr7 hz7
                  go_wp2
                  go_roundw
                  case rel => exact ⟨k + 1, by omega, by rw [HQ1.out]; rfl, by go_num, hS9, hb9, foundP_step HNO.out (fun h => by cases (HFD.out.1 h).1)⟩
                  case measure => simp [intOf]; omega
                | false =>
                  rw [gy] at HQ1 HFD hr7
                  have hf3 := frozen_of_row _ _ 3 _ _ hr7
                  have hq6 : w7.cell? ⟨b7, 6, none⟩ = some (.bool false) := by rw [cell_of_row _ _ _ _ _ (0, 0) hr7]; rfl
                  have hq3 : w7.cell? ⟨b7, 3, none⟩ = some (.string y.number) := by rw [cell_of_row _ _ _ _ _ (0, 0) hr7]; rfl
                  have hvx := hx7.setCell (p := ⟨b7, 3, none⟩) (Nat.le_refl b7) (.string ⟨#[]⟩)
                  have hvr := setCell_rowN hr7 3 (.string ⟨#[]⟩)
                  simp only [List.setIfInBounds_toArray, List.set_cons_zero, List.set_cons_succ] at hvr
                  clear hx7 hr7 hz7
                  go_upto_region 16 with (fail)
                  clear hq6 hq3 hf3
                  have hS9 := HSK.out _ hvx
                  have hb9 := HBK.out _ hvx
                  clear hvx
                  have hit := item_eql (w7.setCell ⟨b7, 3, none⟩ (.string ⟨#[]⟩)) ⟨y.kind, y.id, y.parent, ⟨#[]⟩, y.north, y.south, false⟩ p.it
                  obtain ⟨SB, hSB⟩ : ∃ SB, sameI ⟨y.kind, y.id, y.parent, ⟨#[]⟩, y.north, y.south, false⟩ p.it = SB := ⟨_, rfl⟩
                  rw [hSB] at hit
                  have HSB := hide (show SB = true ↔ Dg.bareI y = p.it by
                    rw [← hSB, sameI_iff, bare_mk y gy])
                  generalize w7.setCell ⟨b7, 3, none⟩ (.string ⟨#[]⟩) = w9 at *
                  obtain ⟨z0, z1, z2, z3, z4, z5, z6, z7, z8, z9⟩ := jCells10 hS9.r2
                  obtain ⟨t0, t1, t2, t3, t4, t5, t6⟩ := iCells hvr
                  clear hSB gy hvr
                  by_cases hqi : ((q : Nat) : Int) = p.idx
                  · have hqe : (((q : Nat) : Int) == p.idx) = true := beq_iff_eq.2 hqi
                    have HQI := hide hqi
                    clear hqi
                    cases SB with
                    | true =>
                      go_wp2
                      go_ret
                      exact ⟨rfl, hb9⟩
                    | false =>
                      have hno : ¬ foundP l p k := fun h => by
                        have := HSB.out.2 (HFD.out.1 h).2.2
                        cases this
                      have HNK := hide hno
                      clear hno HSB
                      go_wp2
                      go_roundw
                      case rel => exact ⟨k + 1, by omega, by rw [HQ1.out]; go_num, by go_num, hS9, hb9, foundP_step HNO.out HNK.out⟩
                      case measure => simp [intOf]; omega
                  · have hqe : (((q : Nat) : Int) == p.idx) = false := beq_eq_false_iff_ne.2 hqi
                    have hno : ¬ foundP l p k := fun h => hqi (HFD.out.1 h).2.1
                    have HNK := hide hno
                    clear hno hqi HSB
                    go_wp2
                    go_roundw
                    case rel => exact ⟨k + 1, by omega, by rw [HQ1.out]; go_num, by go_num, hS9, hb9, foundP_step HNO.out HNK.out⟩
                    case measure => simp [intOf]; omega
              · obtain rfl : n = k := by omega
                have hsh := HSD.out.resolve_left (fun ⟨j, hj⟩ => HNO.out j (by
                  obtain ⟨hjl, _⟩ := hj
                  rw [HL.out] at hjl
                  exact hjl) hj)
                obtain ⟨LF, hLF⟩ : ∃ LF, Dg.leafI p.it = LF := ⟨_, rfl⟩
                rw [hLF] at hsh
                have HLF := hide hLF
                have lfz : LF.size ≤ 1048576 := by rw [← hLF]; exact leafI_size2 HPZ.out
                have k1 := texts_len m L HM.out
                have k3 := length_le m i
                have k2 : 1 ≤ (Dg.pathTexts m i LF p.path.reverse).length ∧ (Dg.pathTexts m i LF p.path.reverse).length ≤ 21 := by rw [pt_len m i LF p.path.reverse (by omega) him]; omega
                have HMM := hide (mem_app (texts_size m L HM.out HLZ.out) (pt_size m i LF p.path.reverse lfz (fun s h => Nat.le_trans (HPP.out s (List.mem_reverse.1 h)) (by decide))))
                have HLFZ := hide lfz
                have HT1 := hide (fun (W : World) (s : Strs W W.heap.size A7 L) => texts_any m A7 c7 L W HM.out hc7 (by omega) HLZ.out s)
                have HT2 := hide (fun (W : World) (s : Strs W W.heap.size A2 p.path) => rpt_any m i A2 c2 m2 LF p.path W HM2.out HLEN.out.symm (by omega) him (by omega) HC2.out HLFZ.out (fun s h => Nat.le_trans (HPP.out s h) (by decide)) s)
                have HSH := hide hsh
                clear hsh hLF lfz
                generalize Dg.texts L = T1 at *
                generalize Dg.pathTexts m i LF p.path.reverse = T2 at *
                go_upto_region 19 with (fail)
                try clear hc1
                try clear hc2
                refine wp_region_noPanic ?_
                refine wp_region_L (SO w.heap.size A n c l p A2 m2 c2 A7 L) 18 hmx ?_
                have hdr := (Below.refl wr.heap.size wr).drew
                have hS41 : (SO w.heap.size A n c l p A2 m2 c2 A7 L) wr.drew := hS.below hdr
                have hb41 := bnext hb hdr
                clear hdr hS hb
                generalize wr.drew = w41 at *
                refine wpAnyL_take (i := 0) (f0 := 20) (v := ?_) rfl (by decide +kernel) (by decide +kernel) (by decide +kernel) (by decide +kernel) (by decide +kernel) (fun _ _ _ h => h) (Or.inl ⟨by rfl, ?_⟩) hS41 ?_
                rotate_left
                · intro wS hS; go_simp; (try with_reducible rfl)
                simp only [Act.put, List.getElem_toArray, List.getElem_cons_zero, List.setIfInBounds_toArray, List.set_cons_succ, List.set_cons_zero]
                refine wpAnyL_take (i := 1) (f0 := 20) (v := ?_) rfl (by decide +kernel) (by decide +kernel) (by decide +kernel) (by decide +kernel) (by decide +kernel) (fun _ _ _ h => h) (Or.inl ⟨by rfl, ?_⟩) hS41 ?_
                rotate_left
                · intro wS hS; go_simp; (try with_reducible rfl)
                simp only [Act.put, List.getElem_toArray, List.getElem_cons_succ, List.getElem_cons_zero, List.setIfInBounds_toArray, List.set_cons_succ, List.set_cons_zero]
                refine wpAnyL_take (i := 2) (f0 := 20) (v := ?_) rfl (by decide +kernel) (by decide +kernel) (by decide +kernel) (by decide +kernel) (by decide +kernel) (fun _ _ _ h => h) (Or.inl ⟨by rfl, ?_⟩) hS41 ?_
                rotate_left
                · intro wS hS; go_simp; (try with_reducible rfl)
                simp only [Act.put, List.getElem_toArray, List.getElem_cons_succ, List.getElem_cons_zero, List.setIfInBounds_toArray, List.set_cons_succ, List.set_cons_zero]
                refine wpAnyL_take (i := 4) (f0 := 20) (v := ?_) rfl (by decide +kernel) (by decide +kernel) (by decide +kernel) (by decide +kernel) (by decide +kernel) (fun _ _ _ h => h) (Or.inl ⟨by rfl, ?_⟩) hS41 ?_
                rotate_left
                · intro wS hS; go_simp; (try with_reducible rfl)
                simp only [Act.put, List.getElem_toArray, List.getElem_cons_succ, List.getElem_cons_zero, List.setIfInBounds_toArray, List.set_cons_succ, List.set_cons_zero]
                refine wpAnyL_take (i := 5) (f0 := 20) (v := ?_) rfl (by decide +kernel) (by decide +kernel) (by decide +kernel) (by decide +kernel) (by decide +kernel) (fun _ _ _ h => h) (Or.inl ⟨by rfl, ?_⟩) hS41 ?_
                rotate_left
                · intro wS hS; obtain ⟨z0, z1, z2, z3, z4, z5, z6, z7, z8, z9⟩ := jCells10 hS.r2; rw [HCM.out] at z0; go_simp; (try with_reducible rfl)
                simp only [Act.put, List.getElem_toArray, List.getElem_cons_succ, List.getElem_cons_zero, List.setIfInBounds_toArray, List.set_cons_succ, List.set_cons_zero]
                refine wpAnyL_take (i := 6) (f0 := 20) (v := ?_) rfl (by decide +kernel) (by decide +kernel) (by decide +kernel) (by decide +kernel) (by decide +kernel) (fun _ _ _ h => h) (Or.inl ⟨by rfl, ?_⟩) hS41 ?_
                rotate_left
                · intro wS hS; go_simp; (try with_reducible rfl)
                simp only [Act.put, List.getElem_toArray, List.getElem_cons_succ, List.getElem_cons_zero, List.setIfInBounds_toArray, List.set_cons_succ, List.set_cons_zero]
                refine wpAnyL_take (i := 7) (f0 := 20) (v := ?_) rfl (by decide +kernel) (by decide +kernel) (by decide +kernel) (by decide +kernel) (by decide +kernel) (fun _ _ _ h => h) (Or.inl ⟨by rfl, ?_⟩) hS41 ?_
                rotate_left
                · intro wS hS; obtain ⟨z0, z1, z2, z3, z4, z5, z6, z7, z8, z9⟩ := jCells10 hS.r2; rw [HI.out] at z1; go_simp; (try with_reducible rfl)
                simp only [Act.put, List.getElem_toArray, List.getElem_cons_succ, List.getElem_cons_zero, List.setIfInBounds_toArray, List.set_cons_succ, List.set_cons_zero]
                refine wpAnyL_take (i := 8) (f0 := 20) (v := ?_) rfl (by decide +kernel) (by decide +kernel) (by decide +kernel) (by decide +kernel) (by decide +kernel) (fun _ _ _ h => h) (Or.inl ⟨by rfl, ?_⟩) hS41 ?_
                rotate_left
                · intro wS hS; go_simp; (try with_reducible rfl)
                simp only [Act.put, List.getElem_toArray, List.getElem_cons_succ, List.getElem_cons_zero, List.setIfInBounds_toArray, List.set_cons_succ, List.set_cons_zero]
                refine wpAnyL_take (i := 9) (f0 := 20) (v := ?_) rfl (by decide +kernel) (by decide +kernel) (by decide +kernel) (by decide +kernel) (by decide +kernel) (fun _ _ _ h => h) (Or.inl ⟨by rfl, ?_⟩) hS41 ?_
                rotate_left
                · intro wS hS; obtain ⟨z0, z1, z2, z3, z4, z5, z6, z7, z8, z9⟩ := jCells10 hS.r2; go_simp; (try with_reducible rfl)
                simp only [Act.put, List.getElem_toArray, List.getElem_cons_succ, List.getElem_cons_zero, List.setIfInBounds_toArray, List.set_cons_succ, List.set_cons_zero]
                refine wpAnyL_take (i := 11) (f0 := 20) (v := ?_) rfl (by decide +kernel) (by decide +kernel) (by decide +kernel) (by decide +kernel) (by decide +kernel) (fun _ _ _ h => h) (Or.inl ⟨by rfl, ?_⟩) hS41 ?_
                rotate_left
                · intro wS hS; go_simp; (try with_reducible rfl)
                simp only [Act.put, List.getElem_toArray, List.getElem_cons_succ, List.getElem_cons_zero, List.setIfInBounds_toArray, List.set_cons_succ, List.set_cons_zero]
                refine wpAnyL_take (i := 12) (f0 := 20) (v := ?_) rfl (by decide +kernel) (by decide +kernel) (by decide +kernel) (by decide +kernel) (by decide +kernel) (fun _ _ _ h => h) (Or.inl ⟨by rfl, ?_⟩) hS41 ?_
                rotate_left
                · intro wS hS; obtain ⟨z0, z1, z2, z3, z4, z5, z6, z7, z8, z9⟩ := jCells10 hS.r2; go_simp; (try with_reducible rfl)
                simp only [Act.put, List.getElem_toArray, List.getElem_cons_succ, List.getElem_cons_zero, List.setIfInBounds_toArray, List.set_cons_succ, List.set_cons_zero]
                refine wpAnyL_one (i := 3) (by decide +kernel) (by rfl) (fun K hK => ?_)
                rw [if_pos (by rfl)]
                go_simp
                refine (HT1.out w41 hS41.lis).mono ?_
                rintro e w42 ⟨⟨ga, ca, rfl, hO1⟩, hx42⟩
                have hSB := hS41
                have hBas0 := hb41
                have hcb := hx42
                have hS42 : (SO w.heap.size A n c l p A2 m2 c2 A7 L) w42 := hS41.below hx42
                have hb42 := bnext hb41 hx42
                refine hK.out _ _ (Or.inr hS42) ?_
                clear hK K hS41 hb41 hx42
                try simp only [Act.put, List.getElem_toArray, List.getElem_cons_succ, List.getElem_cons_zero, List.setIfInBounds_toArray, List.set_cons_succ, List.set_cons_zero]
                refine wpAnyL_one (i := 10) (by decide +kernel) (by rfl) (fun K hK => ?_)
                rw [if_pos (by rfl)]
                go_simp
                refine (rleaf_of p.it (fun s hs => Nat.le_trans (HPZ.out s hs) (by decide)) w42 LF HLF.out).mono ?_
                rintro e w43 ⟨rfl, hx43⟩
                replace hO1 := hO1.below hx43
                replace hcb := bnext hcb hx43
                have hS43 : (SO w.heap.size A n c l p A2 m2 c2 A7 L) w43 := hS42.below hx43
                have hb43 := bnext hb42 hx43
                refine hK.out _ _ (Or.inr hS43) ?_
                clear hK K hS42 hb42 hx43
                try simp only [Act.put, List.getElem_toArray, List.getElem_cons_succ, List.getElem_cons_zero, List.setIfInBounds_toArray, List.set_cons_succ, List.set_cons_zero]
                refine wpAnyL_one (i := 13) (by decide +kernel) (by rfl) (fun K hK => ?_)
                rw [if_pos (by rfl)]
                go_simp
                refine (HT2.out w43 hS43.pth).mono ?_
                rintro e w44 ⟨⟨v2, rfl, hO2⟩, hx44⟩
                replace hO1 := hO1.below hx44
                replace hcb := bnext hcb hx44
                obtain ⟨gb, cb, rfl, _, _⟩ := hO2.full (by omega)
                have hS44 : (SO w.heap.size A n c l p A2 m2 c2 A7 L) w44 := hS43.below hx44
                have hb44 := bnext hb43 hx44
                refine hK.out _ _ (Or.inr hS44) ?_
                clear hK K hS43 hb43 hx44
                try simp only [Act.put, List.getElem_toArray, List.getElem_cons_succ, List.getElem_cons_zero, List.setIfInBounds_toArray, List.set_cons_succ, List.set_cons_zero]
                refine wpAnyL_one (i := 14) (by decide +kernel) (by rfl) (fun K hK => ?_)
                rw [if_pos (by rfl)]
                refine wp_ad (.tmp 81) (.tmp 91) rfl w41.heap.size _ _ T1 T2 rfl hO1 (some ⟨gb, 0, none⟩) T2.length cb rfl rfl hO2.strs' (by omega) hcb.size ?_
                intro v3 w45 hO3 hx45 _
                obtain ⟨A3, c3, rfl, _, hs3⟩ := hO3.strs
                have hS45 : (SO w.heap.size A n c l p A2 m2 c2 A7 L) w45 := hSB.below (hcb.trans hx45)
                have hb45 := bnext hBas0 (hcb.trans hx45)
                refine hK.out _ _ (Or.inr hS45) ?_
                clear hK K hS44 hb44 hx45 hcb hBas0 hSB hO1 hO2
                try simp only [Act.put, List.getElem_toArray, List.getElem_cons_succ, List.getElem_cons_zero, List.setIfInBounds_toArray, List.set_cons_succ, List.set_cons_zero]
                refine wpAnyL_one (i := 15) (by decide +kernel) (by rfl) (fun K hK => ?_)
                rw [if_pos (by rfl)]
                go_simp
                refine (shown_any A3 c3 _ (T1 ++ T2) w45 (by rw [List.length_append]) (by omega) (fun s h => Nat.le_trans (HMM.out s h) (by decide)) hs3 HSH.out).mono ?_
                rintro e w46 ⟨rfl, hx46⟩
                have hS46 : (SO w.heap.size A n c l p A2 m2 c2 A7 L) w46 := hS45.below hx46
                have hb46 := bnext hb45 hx46
                refine hK.out _ _ (Or.inr hS46) ?_
                clear hK K hS45 hb45 hx46
                try simp only [Act.put, List.getElem_toArray, List.getElem_cons_succ, List.getElem_cons_zero, List.setIfInBounds_toArray, List.set_cons_succ, List.set_cons_zero]
                refine wpAnyL_take (i := 16) (f0 := 20) (v := ?_) rfl (by decide +kernel) (by decide +kernel) (by decide +kernel) (by decide +kernel) (by decide +kernel) (fun _ _ _ h => h) (Or.inl ⟨by rfl, ?_⟩) hS46 ?_
                rotate_left
                · intro wS hS; go_simp; (try with_reducible rfl)
                simp only [Act.put, List.getElem_toArray, List.getElem_cons_succ, List.getElem_cons_zero, List.setIfInBounds_toArray, List.set_cons_succ, List.set_cons_zero]
                refine wpAnyL_take (i := 17) (f0 := 20) (v := ?_) rfl (by decide +kernel) (by decide +kernel) (by decide +kernel) (by decide +kernel) (by decide +kernel) (fun _ _ _ h => h) (Or.inl ⟨by rfl, ?_⟩) hS46 ?_
                rotate_left
                · intro wS hS; go_simp; (try with_reducible rfl)
                simp only [Act.put, List.getElem_toArray, List.getElem_cons_succ, List.getElem_cons_zero, List.setIfInBounds_toArray, List.set_cons_succ, List.set_cons_zero]
                refine wpAnyL_done (by decide +kernel) ?_ _
                refine NoPanic.normal ?_
                go_wp2
                go_ret
                exact ⟨rfl, hb46⟩
        · have hne1 : (p.count != (m : Int)) = true := by rw [bne_iff_ne]; exact hcm
          clear hcm
          try clear hc1
          try clear hc2
          refine wp_region_noPanic ?_
          refine wp_region_L (SO w.heap.size A n c l p A2 m2 c2 A7 L) 12 hmx ?_
          have hdr := (Below.refl w6.heap.size w6).drew
          have hS7 : (SO w.heap.size A n c l p A2 m2 c2 A7 L) w6.drew := hS6.below hdr
          have hb7 := bnext hb6 hdr
          clear hdr hS6 hb6
          generalize w6.drew = w7 at *
          refine wpAnyL_take (i := 0) (f0 := 14) (v := ?_) rfl (by decide +kernel) (by decide +kernel) (by decide +kernel) (by decide +kernel) (by decide +kernel) (fun _ _ _ h => h) (Or.inl ⟨by rfl, ?_⟩) hS7 ?_
          rotate_left
          · intro wS hS; go_simp; (try with_reducible rfl)
          simp only [Act.put, List.getElem_toArray, List.getElem_cons_zero, List.setIfInBounds_toArray, List.set_cons_succ, List.set_cons_zero]
          refine wpAnyL_take (i := 1) (f0 := 14) (v := ?_) rfl (by decide +kernel) (by decide +kernel) (by decide +kernel) (by decide +kernel) (by decide +kernel) (fun _ _ _ h => h) (Or.inl ⟨by rfl, ?_⟩) hS7 ?_
          rotate_left
          · intro wS hS; obtain ⟨z0, z1, z2, z3, z4, z5, z6, z7, z8, z9⟩ := jCells10 hS.r2; go_simp; (try with_reducible rfl)
          simp only [Act.put, List.getElem_toArray, List.getElem_cons_succ, List.getElem_cons_zero, List.setIfInBounds_toArray, List.set_cons_succ, List.set_cons_zero]
          refine wpAnyL_take (i := 2) (f0 := 14) (v := ?_) rfl (by decide +kernel) (by decide +kernel) (by decide +kernel) (by decide +kernel) (by decide +kernel) (fun _ _ _ h => h) (Or.inl ⟨by rfl, ?_⟩) hS7 ?_
          rotate_left
          · intro wS hS; go_simp; (try with_reducible rfl)
          simp only [Act.put, List.getElem_toArray, List.getElem_cons_succ, List.getElem_cons_zero, List.setIfInBounds_toArray, List.set_cons_succ, List.set_cons_zero]
          refine wpAnyL_take (i := 3) (f0 := 14) (v := ?_) rfl (by decide +kernel) (by decide +kernel) (by decide +kernel) (by decide +kernel) (by decide +kernel) (fun _ _ _ h => h) (Or.inl ⟨by rfl, ?_⟩) hS7 ?_
          rotate_left
          · intro wS hS; go_simp; (try with_reducible rfl)
          simp only [Act.put, List.getElem_toArray, List.getElem_cons_succ, List.getElem_cons_zero, List.setIfInBounds_toArray, List.set_cons_succ, List.set_cons_zero]
          refine wpAnyL_take (i := 4) (f0 := 14) (v := ?_) rfl (by decide +kernel) (by decide +kernel) (by decide +kernel) (by decide +kernel) (by decide +kernel) (fun _ _ _ h => h) (Or.inl ⟨by rfl, ?_⟩) hS7 ?_
          rotate_left
          · intro wS hS; go_simp; (try with_reducible rfl)
          simp only [Act.put, List.getElem_toArray, List.getElem_cons_succ, List.getElem_cons_zero, List.setIfInBounds_toArray, List.set_cons_succ, List.set_cons_zero]
          refine wpAnyL_take (i := 5) (f0 := 14) (v := ?_) rfl (by decide +kernel) (by decide +kernel) (by decide +kernel) (by decide +kernel) (by decide +kernel) (fun _ _ _ h => h) (Or.inl ⟨by rfl, ?_⟩) hS7 ?_
          rotate_left
          · intro wS hS; go_simp; (try with_reducible rfl)
          simp only [Act.put, List.getElem_toArray, List.getElem_cons_succ, List.getElem_cons_zero, List.setIfInBounds_toArray, List.set_cons_succ, List.set_cons_zero]
          refine wpAnyL_take (i := 6) (f0 := 14) (v := undef) rfl (by decide +kernel) (by decide +kernel) (by decide +kernel) (by decide +kernel) (by decide +kernel) (fun _ _ _ h => h) (Or.inr ⟨by rfl, rfl⟩) hS7 ?_
          simp only [Act.put, List.getElem_toArray, List.getElem_cons_succ, List.getElem_cons_zero, List.setIfInBounds_toArray, List.set_cons_succ, List.set_cons_zero]
          refine wpAnyL_take (i := 7) (f0 := 14) (v := undef) rfl (by decide +kernel) (by decide +kernel) (by decide +kernel) (by decide +kernel) (by decide +kernel) (fun _ _ _ h => h) (Or.inr ⟨by rfl, rfl⟩) hS7 ?_
          simp only [Act.put, List.getElem_toArray, List.getElem_cons_succ, List.getElem_cons_zero, List.setIfInBounds_toArray, List.set_cons_succ, List.set_cons_zero]
          refine wpAnyL_take (i := 8) (f0 := 14) (v := undef) rfl (by decide +kernel) (by decide +kernel) (by decide +kernel) (by decide +kernel) (by decide +kernel) (fun _ _ _ h => h) (Or.inr ⟨by rfl, rfl⟩) hS7 ?_
          simp only [Act.put, List.getElem_toArray, List.getElem_cons_succ, List.getElem_cons_zero, List.setIfInBounds_toArray, List.set_cons_succ, List.set_cons_zero]
          refine wpAnyL_take (i := 9) (f0 := 14) (v := undef) rfl (by decide +kernel) (by decide +kernel) (by decide +kernel) (by decide +kernel) (by decide +kernel) (fun _ _ _ h => h) (Or.inr ⟨by rfl, rfl⟩) hS7 ?_
          simp only [Act.put, List.getElem_toArray, List.getElem_cons_succ, List.getElem_cons_zero, List.setIfInBounds_toArray, List.set_cons_succ, List.set_cons_zero]
          refine wpAnyL_take (i := 10) (f0 := 14) (v := undef) rfl (by decide +kernel) (by decide +kernel) (by decide +kernel) (by decide +kernel) (by decide +kernel) (fun _ _ _ h => h) (Or.inr ⟨by rfl, rfl⟩) hS7 ?_
          simp only [Act.put, List.getElem_toArray, List.getElem_cons_succ, List.getElem_cons_zero, List.setIfInBounds_toArray, List.set_cons_succ, List.set_cons_zero]
          refine wpAnyL_take (i := 11) (f0 := 14) (v := ?_) rfl (by decide +kernel) (by decide +kernel) (by decide +kernel) (by decide +kernel) (by decide +kernel) (fun _ _ _ h => h) (Or.inl ⟨by rfl, ?_⟩) hS7 ?_
          rotate_left
          · intro wS hS; go_simp; (try with_reducible rfl)
          simp only [Act.put, List.getElem_toArray, List.getElem_cons_succ, List.getElem_cons_zero, List.setIfInBounds_toArray, List.set_cons_succ, List.set_cons_zero]
          refine wpAnyL_done (by decide +kernel) ?_ _
          refine NoPanic.normal ?_
          go_wp2
          go_ret
          exact ⟨rfl, hb7⟩
end Go.Proofs.YtobhpeockinnjaaGreatDoor
/- Proofs that came in, opened. No conditions. -/
namespace Go.Proofs.YtobhpeockinnjaaGreatDoor
open Go Go.RowKit Go.ChangeShapes Go.WideShapes Go.ChangeAt Go.WideMaps Go.WideElems Go.Joins Go.Deep
variable {H : Type} {enc : TypeId × Value → H}
/-- What a proof that came in is like. -/
structure PfW (p : Pf) : Prop where
  c0 : -9223372036854775808 ≤ p.count
  c1 : p.count ≤ 9223372036854775807
  i0 : -9223372036854775808 ≤ p.idx
  i1 : p.idx ≤ 9223372036854775807
  tw : ItW p.it
  pl : p.path.length ≤ 9223372036854775807
  ps : ∀ s ∈ p.path, s.size ≤ 9223372036854775807
  sum : p.it.id.size + p.it.parent.size + p.it.number.size ≤ 9223372036854775807
set_option maxRecDepth 100000 in
/-- An item that came in has texts within reach. -/
theorem item_sized {W : World} {k : Nat} {v : Dg.It} {x : DataW H × List MemPlace} (h : DataW.trod enc Tryz.prog W 0 (fun _ => true) true k 26 (itV v).toList = some x)
    (hsz : ∀ n ∈ x.1.weights Tryz.prog 26, n ≤ reachBytes) : v.id.size ≤ 140737488351232 ∧ v.parent.size ≤ 140737488351232 ∧ v.number.size ≤ 140737488351232 := by
  obtain ⟨xs, n, _, hx, _, hxl, hf⟩ := DataW.trod_struct Tryz.underlying26 h
  match xs, hxl, hx with
  | [y0, y1, y2, y3, y4, y5, y6], _, hx =>
    have f1 : DataW.trod enc Tryz.prog W 0 (fun _ => true) true n 9 [.string v.id] = some y1 := by simpa [cellsStr, itV] using hf 1 _ rfl
    have f2 : DataW.trod enc Tryz.prog W 0 (fun _ => true) true n 9 [.string v.parent] = some y2 := by simpa [cellsStr, itV] using hf 2 _ rfl
    have f3 : DataW.trod enc Tryz.prog W 0 (fun _ => true) true n 9 [.string v.number] = some y3 := by simpa [cellsStr, itV] using hf 3 _ rfl
    obtain ⟨b1, e1, g1, _⟩ := DataW.trod_string Tryz.underlying9 f1
    obtain ⟨b2, e2, g2, _⟩ := DataW.trod_string Tryz.underlying9 f2
    obtain ⟨b3, e3, g3, _⟩ := DataW.trod_string Tryz.underlying9 f3
    simp only [List.cons.injEq, and_true, Value.string.injEq] at e1 e2 e3
    subst e1 e2 e3
    have hd : x.1 = .agg [y0.1, y1.1, y2.1, y3.1, y4.1, y5.1, y6.1] := congrArg Prod.fst hx
    have m1 : v.id.data.toList.length ∈ x.1.weights Tryz.prog 26 := by
      rw [hd, g1]
      simp only [DataW.weights, Tryz.underlying26, DataW.weightsEach, List.map_cons, List.map_nil, List.mem_append, List.mem_cons, true_or, or_true]
    have m2 : v.parent.data.toList.length ∈ x.1.weights Tryz.prog 26 := by
      rw [hd, g2]
      simp only [DataW.weights, Tryz.underlying26, DataW.weightsEach, List.map_cons, List.map_nil, List.mem_append, List.mem_cons, true_or, or_true]
    have m3 : v.number.data.toList.length ∈ x.1.weights Tryz.prog 26 := by
      rw [hd, g3]
      simp only [DataW.weights, Tryz.underlying26, DataW.weightsEach, List.map_cons, List.map_nil, List.mem_append, List.mem_cons, true_or, or_true]
    have q1 := hsz _ m1
    have q2 := hsz _ m2
    have q3 := hsz _ m3
    unfold reachBytes at q1 q2 q3
    rw [Array.length_toList] at q1 q2 q3
    exact ⟨q1, q2, q3⟩
theorem cPath : Tryz.prog.cellsOf 27 = 1 := by kernel_rfl
set_option maxRecDepth 100000 in
theorem open_proof {W : World} {v : Value} {d : DataW H} {pl : List MemPlace} {base : Nat} (hv : Value.okWide Tryz.prog W .any base 29 v) (h : DataW.Trod enc Tryz.prog W 0 (fun _ => true) true 29 v d pl)
    (hsz : ∀ x ∈ d.weights Tryz.prog 29, x ≤ reachBytes) :
    ∃ (p : Pf) (A : Option Addr) (c : Nat), v = .agg #[.int .i64 p.count, .int .i64 p.idx, .int .i64 p.it.kind, .string p.it.id, .string p.it.parent, .string p.it.number, .string p.it.north, .string p.it.south, .bool p.it.gone, .slice A p.path.length c] ∧ PfW p ∧ Strs W W.heap.size A p.path ∧ p.path.length ≤ c := by
  obtain ⟨cs, rfl, hcz⟩ := okWide_struct Tryz.underlying29 hv
  obtain ⟨l⟩ := cs
  match l, hcz.trans cProof with
  | [c0, c1, c2, c3, c4, c5, c6, c7, c8, c9], _ =>
    obtain ⟨fuel, hf0⟩ := h
    obtain ⟨xs, n, _, hx, _, hxl, hf⟩ := DataW.trod_struct Tryz.underlying29 hf0
    match xs, hxl, hx with
    | [y0, y1, y2, y3], _, hx =>
      have f0 : DataW.trod enc Tryz.prog W 0 (fun _ => true) true n 3 [c0] = some y0 := by simpa [Value.cells, cIntC] using hf 0 _ rfl
      have f1 : DataW.trod enc Tryz.prog W 0 (fun _ => true) true n 3 [c1] = some y1 := by simpa [Value.cells, cIntC] using hf 1 _ rfl
      have f2 : DataW.trod enc Tryz.prog W 0 (fun _ => true) true n 26 [c2, c3, c4, c5, c6, c7, c8] = some y2 := by simpa [Value.cells, cItem] using hf 2 _ rfl
      have f3 : DataW.trod enc Tryz.prog W 0 (fun _ => true) true n 27 [c9] = some y3 := by simpa [Value.cells, cPath] using hf 3 _ rfl
      obtain ⟨m, e0, _, w0⟩ := DataW.trod_int Tryz.underlying3 f0
      obtain ⟨m', e1, _, w1⟩ := DataW.trod_int Tryz.underlying3 f1
      obtain ⟨t, e2, wt⟩ := trod_item f2
      rw [e2] at f2
      have hd : d = .agg [y0.1, y1.1, y2.1, y3.1] := congrArg Prod.fst hx
      obtain ⟨z1, z2, z3⟩ := item_sized f2 (fun n hn => hsz n (by
        rw [hd]
        simp only [DataW.weights, Tryz.underlying29, DataW.weightsEach, List.map_cons, List.map_nil, List.mem_append]
        exact Or.inr (Or.inr (Or.inl hn))))
      obtain ⟨A, c, q, rfl, a1, a2, a3, a4⟩ := field_strs f3
      unfold itV at e2
      simp only [List.cons.injEq, and_true] at e0 e1 e2
      obtain ⟨rfl, rfl, rfl, rfl, rfl, rfl, rfl⟩ := e2
      subst e0 e1
      obtain ⟨m0, m1⟩ := bounds_i64 w0
      obtain ⟨k0, k1⟩ := bounds_i64 w1
      exact ⟨⟨m, m', t, q⟩, A, c, rfl, ⟨m0, m1, k0, k1, wt, a1, a2, by show t.id.size + t.parent.size + t.number.size ≤ _; omega⟩, a3, a4⟩
end Go.Proofs.YtobhpeockinnjaaGreatDoor

