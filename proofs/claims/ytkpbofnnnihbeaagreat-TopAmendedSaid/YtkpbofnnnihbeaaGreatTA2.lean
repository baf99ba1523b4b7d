/- Walks and laws of this seat, several texts in one. No conditions but those that each theorem states. -/
import Derived.Test.YtkpbofnnnihbeaaGreatTA1
import Derived.Lib.Overlaps
import Derived.Tactics
import Derived.Tactics2
import Derived.Defers
import Derived.Laws.Pointers
import Derived.Laws.LoneSync
import Derived.RegionTactic
import Derived.RegionCalls
import Derived.ChangeAlike
import Derived.Laws.ResultCell
import Derived.Deep.MidRow
import Derived.Great.BuildSlice
import Derived.Lib.QuietBelow
import Derived.BigQuiet
set_option maxRecDepth 100000
set_option maxHeartbeats 16000000
set_option linter.unusedSimpArgs false
set_option linter.unusedVariables false
namespace Go.Proofs.YtkpbofnnnihbeaaGreat
open Go Go.RowKit Go.Sort Go.Maps Rw Tryz
theorem shape_row {w : World} {g : Nat} {cs : Array Value} {t : TypeId} (h : w.heap[g]? = some (.cells cs t (0, 0))) : w.shape? g = some (t, cs.size) := by
 unfold World.shape?
 rw [h]
theorem sizeItem : ∀ w, (Go.sizeOf 51).run Tryz.prog w = .ok 7 w := fun w => by kernel_rfl
theorem infoItem7 : (Tryz.prog.info? 51).map (·.size) = some 7 := by kernel_rfl
theorem overlaps_no {w : World} {a b : Addr} {la ca lb cb : Nat} {xs ys : List Value} (hab : a.block ≠ b.block) (ha : w.heap[a.block]? = some (.cells xs.toArray 51 (0, 0))) (hb : w.heap[b.block]? = some (.cells ys.toArray 51 (0, 0))) (hy : ys ≠ []) (hsa : a.spot = none) :
  (callFunc 125 #[.slice (some a) la ca, .slice (some b) lb cb]).run Tryz.prog w = .ok (.value (.bool false)) w := by
 have hfz : w.frozen? a = false := by
  obtain ⟨ab, ao, asp⟩ := a
  obtain rfl : asp = none := hsa
  exact frozen_of_row w ab ao _ _ ha
 rw [run_callFunc_extern func125 (by kernel_rfl) (by kernel_rfl) (by kernel_rfl) (e := Extern.SlicesOverlaps.overlaps #[22, 22] #[4]) (by kernel_rfl),
  Lib.run_overlaps_apart w 22 4 51 underlying22 7 sizeItem a b la ca lb cb hab 51 51 _ _ (shape_row ha) (shape_row hb) (by
   rw [List.size_toArray]
   intro e
   exact hy (List.length_eq_zero_iff.1 e)) hfz (frozen_of_row w a.block _ _ _ ha)]
 rfl
theorem zero7 (k : Nat) : (Builtin.zeroCells (Value.agg (Rq1 : Array Value)).cells k).toList.length = k * 7 := by
 rw [Array.length_toList, size_zeroCells]
 rfl
theorem insertI_end (v : Value) (l m : List Dg.It) (B g2 c2 : Nat) (sp2 : List Value) (w : World) (hO : Own1 iLay 51 w B v l) (hg2 : w.heap[g2]? = some (.cells (iLay.flat m ++ sp2).toArray 51 (0, 0))) (hlt : g2 < B) (hB : B ≤ w.heap.size) (hm0 : 0 < m.length) (hn : l.length + m.length ≤ 2000000) :
  Calls Tryz.prog 111 #[v, .int .i64 l.length, .slice (some ⟨g2, 0, none⟩) m.length c2] w fun e w' => ∃ v', e = .returned v' ∧ Own1 iLay 51 w' B v' (l ++ m) ∧ Below B w w' := by
 obtain ⟨A, c, rfl, _, hc⟩ := hO.row
 have hR : Row1 iLay w B (some ⟨g2, 0, none⟩) m := ⟨fun _ => ⟨g2, 0, rfl, hlt, fun j u hj => by
  rw [Nat.zero_add, cell_of_row _ _ _ _ _ (0, 0) hg2, ← Array.getElem?_toList]
  show (iLay.flat m ++ sp2)[j]? = some u
  rw [List.getElem?_append_left (List.getElem?_eq_some_iff.1 hj).1]
  exact hj⟩⟩
 obtain ⟨n, hnl⟩ : ∃ n, n = l.length := ⟨_, rfl⟩
 obtain ⟨k, hkl⟩ : ∃ k, k = m.length := ⟨_, rfl⟩
 rw [← hnl, ← hkl]
 rw [← hnl] at hc hn
 rw [← hkl] at hm0 hn
 have hkz : ¬ ((k : Int) = 0) := by omega
 have HH := hide (And.intro hO (And.intro hR (And.intro hnl hkl)))
 clear hO hR hg2
 have HN := hide hnl; have HK := hide hkl
 clear hnl hkl
 cases A with
 | none =>
  go_enter func111, ntmps111
  go_wp2_with (at_builtin; go_loud (refine step_app1 (L := iLay) rfl (.tmp 23) (.tmp 24) 22 51 _ 96 rfl underlying22 iInfo rfl (by decide) B B (.slice none n c) l m (by rfl) (by have := HH.out.1; rw [← HN.out] at this; exact this) (some ⟨g2, 0, none⟩) k c2 rfl HK.out.symm HH.out.2.1 (by rw [← HN.out]; omega) (by omega) hB ?_))
  all_goals
   intro v1 w1 h1 h2 _ _
   have H1 := hide (And.intro h1 h2)
   clear h1 h2
   go_wp2
   go_ret
   exact ⟨_, rfl, H1.out.1, H1.out.2⟩
 | some ad =>
  obtain ⟨ab, ao, asp⟩ := ad
  by_cases hcn : c = n
  all_goals
   go_enter func111, ntmps111
   go_wp2_with (at_builtin; go_loud (refine step_app1 (L := iLay) rfl (.tmp 23) (.tmp 24) 22 51 _ 96 rfl underlying22 iInfo rfl (by decide) B B (.slice (some ⟨ab, ao, asp⟩) n c) l m (by rfl) (by have := HH.out.1; rw [← HN.out] at this; exact this) (some ⟨g2, 0, none⟩) k c2 rfl HK.out.symm HH.out.2.1 (by rw [← HN.out]; omega) (by omega) hB ?_))
   all_goals
    intro v1 w1 h1 h2 _ _
    have H1 := hide (And.intro h1 h2)
    clear h1 h2
    go_wp2
    go_ret
    exact ⟨_, rfl, H1.out.1, H1.out.2⟩
theorem insertI_room (l m : List Dg.It) (i B g cap g2 c2 : Nat) (sp sp2 : List Value) (w : World) (hBg : B ≤ g) (hg : w.heap[g]? = some (.cells (iLay.flat l ++ sp).toArray 51 (0, 0))) (hs : sp.length = (cap - l.length) * 7) (hm : cap ≤ maxLen) (hg2 : w.heap[g2]? = some (.cells (iLay.flat m ++ sp2).toArray 51 (0, 0))) (hlt : g2 < B) (hi : i < l.length) (hm0 : 0 < m.length) (hn : l.length + m.length ≤ 2000000) (hcap : l.length + m.length ≤ cap) :
  Calls Tryz.prog 111 #[.slice (some ⟨g, 0, none⟩) l.length cap, .int .i64 i, .slice (some ⟨g2, 0, none⟩) m.length c2] w fun e w' => ∃ v', e = .returned v' ∧ Own1 iLay 51 w' B v' (l.take i ++ (m ++ l.drop i)) ∧ Below B w w' := by
 have hmx := hmxQ
 have hfl := iLay.flat_len l
 have hfm := iLay.flat_len m
 have hk7 : iLay.k = 7 := rfl
 rw [hk7] at hfl hfm
 have e0 : iLay.flat l ++ sp = iLay.flat (l.take i) ++ (iLay.flat (l.drop i) ++ sp) := by rw [(iLay.flat_split l i (by omega)).1, List.append_assoc]
 have hX : (iLay.flat (l.take i)).length = i * 7 := (iLay.flat_split l i (by omega)).2
 have hD : (iLay.flat (l.drop i)).length = (l.length - i) * 7 := by rw [iLay.flat_len, List.length_drop]; rfl
 obtain ⟨Y, hY⟩ : ∃ Y, Y = (iLay.flat (l.drop i) ++ sp).take (m.length * 7) := ⟨_, rfl⟩
 obtain ⟨M, hM⟩ : ∃ M, M = ((iLay.flat (l.drop i) ++ sp).drop (m.length * 7)).take ((l.length - i) * 7) := ⟨_, rfl⟩
 obtain ⟨D, hDd⟩ : ∃ D, D = ((iLay.flat (l.drop i) ++ sp).drop (m.length * 7)).drop ((l.length - i) * 7) := ⟨_, rfl⟩
 have hlen : (iLay.flat (l.drop i) ++ sp).length = (cap - i) * 7 := by
  rw [List.length_append, hD, hs]; omega
 have hYl : Y.length = m.length * 7 := by rw [hY, List.length_take, hlen]; omega
 have hMl : M.length = (l.length - i) * 7 := by rw [hM, List.length_take, List.length_drop, hlen]; omega
 have hDl : D.length = (cap - (l.length + m.length)) * 7 := by rw [hDd, List.length_drop, List.length_drop, hlen]; omega
 have e1 : iLay.flat (l.drop i) ++ sp = Y ++ (M ++ D) := by rw [hY, hM, hDd, List.take_append_drop, List.take_append_drop]
 have hrow1 : iLay.flat l ++ sp = (iLay.flat (l.take i) ++ Y) ++ (M ++ D) := by rw [e0, e1, List.append_assoc]
 have hne : iLay.flat l ++ sp ≠ [] := by
  intro e
  have h := congrArg List.length e
  rw [List.length_append, hfl, List.length_nil] at h
  omega
 have hg1 : w.heap[g]? = some (.cells ((iLay.flat (l.take i) ++ Y) ++ (M ++ D)).toArray 51 (0, 0)) := by rw [hg, hrow1]
 have hXY : (iLay.flat (l.take i) ++ Y).length = (i + m.length) * 7 := by rw [List.length_append, hX, hYl, Nat.add_mul]
 obtain ⟨n, hnl⟩ : ∃ n, n = l.length := ⟨_, rfl⟩
 obtain ⟨k, hkl⟩ : ∃ k, k = m.length := ⟨_, rfl⟩
 rw [← hnl] at hi hn hcap hD hMl hDl hs
 rw [← hkl] at hm0 hn hcap hXY hYl hDl hfm
 rw [← hnl, ← hkl]
 have hcp1 : ∀ (w1 : World), w1.heap[g]? = some (.cells ((iLay.flat (l.take i) ++ Y) ++ (M ++ D)).toArray 51 (0, 0)) → ∀ ty dc sc, (Builtin.copy_ #[22, 22] ty #[.slice (some ⟨g, (i + k) * 7, none⟩) (n + k - (i + k)) dc, .slice (some ⟨g, i * 7, none⟩) (n + k - i) sc]).run Tryz.prog w1 = .ok (goInt ((n - i : Nat) : Int)) (w1.setRow g ((iLay.flat (l.take i) ++ Y) ++ (iLay.flat (l.drop i) ++ D)).toArray) := fun w1 hw1 ty dc sc => by
  have h := run_copy_any (P := Tryz.prog) w1 22 22 ty 51 g (n + k - (i + k)) dc (some ⟨g, i * 7, none⟩) (n + k - i) sc (iLay.flat (l.take i) ++ Y) M D 51 (iLay.flat (l.drop i)) (n - i) 7 underlying22 infoItem7 hw1 (by simp only [Nat.min_def]; split <;> omega) hD (by rw [hMl, hD]) ⟨_, rfl, fun j u hj => by
   rw [addr_off, cell_of_row _ _ _ _ _ (0, 0) hw1, ← Array.getElem?_toList]
   show ((iLay.flat (l.take i) ++ Y) ++ (M ++ D))[i * 7 + j]? = some u
   rw [← hrow1, e0, List.getElem?_append_right (by rw [hX]; omega), hX, Nat.add_sub_cancel_left, List.getElem?_append_left (List.getElem?_eq_some_iff.1 hj).1]
   exact hj⟩ (iLay.flat_one _)
  rw [hXY] at h
  exact h
 have hcp2 : ∀ (w1 : World), w1.heap[g]? = some (.cells (iLay.flat (l.take i) ++ (Y ++ (iLay.flat (l.drop i) ++ D))).toArray 51 (0, 0)) → w1.heap[g2]? = some (.cells (iLay.flat m ++ sp2).toArray 51 (0, 0)) → ∀ ty dc, (Builtin.copy_ #[22, 22] ty #[.slice (some ⟨g, i * 7, none⟩) (n + k - i) dc, .slice (some ⟨g2, 0, none⟩) k c2]).run Tryz.prog w1 = .ok (goInt k) (w1.setRow g (iLay.flat (l.take i) ++ (iLay.flat m ++ (iLay.flat (l.drop i) ++ D))).toArray) := fun w1 hw1 hw2 ty dc => by
  have h := run_copy_any (P := Tryz.prog) w1 22 22 ty 51 g (n + k - i) dc (some ⟨g2, 0, none⟩) k c2 (iLay.flat (l.take i)) Y (iLay.flat (l.drop i) ++ D) 51 (iLay.flat m) k 7 underlying22 infoItem7 hw1 (by simp only [Nat.min_def]; split <;> omega) hfm (by rw [hYl, hfm]) ⟨_, rfl, fun j u hj => by
   rw [addr_off, Nat.zero_add, cell_of_row _ _ _ _ _ (0, 0) hw2, ← Array.getElem?_toList]
   show (iLay.flat m ++ sp2)[j]? = some u
   rw [List.getElem?_append_left (List.getElem?_eq_some_iff.1 hj).1]
   exact hj⟩ (iLay.flat_one _)
  rw [hX] at h
  exact h
 have hov : ∀ lb cb, (callFunc 125 #[.slice (some ⟨g2, 0, none⟩) k c2, .slice (some ⟨g, (i + k) * 7, none⟩) lb cb]).run Tryz.prog w = .ok (.value (.bool false)) w := fun lb cb =>
  overlaps_no (a := ⟨g2, 0, none⟩) (b := ⟨g, (i + k) * 7, none⟩) (by show g2 ≠ g; omega) hg2 hg hne rfl
 have hkz : ¬ ((k : Int) = 0) := by omega
 have hin : ¬ ((i : Int) = (n : Int)) := by omega
 have hw1 : IntKind.i64.wrap ((i : Int) + (k : Int)) = (i : Int) + (k : Int) := by rw [IntKind.wrap_i64]; omega
 have hb1 : (0 : Int) ≤ (i : Int) + (k : Int) := by omega
 have htn : ((i : Int) + (k : Int)).toNat = i + k := by omega
 have hb2 : ¬ (cap = i + k) := by omega
 have hb3 : (i : Int) ≤ (n : Int) + (k : Int) := by omega
 have hb4 : ¬ (cap = i) := by omega
 have hik : i ≤ n := by omega
 have hic : i ≤ cap := by omega
 unfold maxLen at hm
 have HG := hide (And.intro hg1 hg2)
 have HL := hide (And.intro hnl hkl)
 have HX := hide (And.intro hX (And.intro hD (And.intro hYl (And.intro hDl (And.intro hXY (And.intro hs hfm))))))
 have HC1 := hide hcp1
 have HC2 := hide hcp2
 clear hg1 hg2 hg hnl hkl hX hD hYl hDl hXY hs hfm hfl hlen hMl e0 e1 hrow1 hne hY hM hDd hk7 hcp1 hcp2
 go_enter func111, ntmps111
 go_upto_region 15 with (fail)
 refine wp_region_noPanic ?_
 refine wp_region_L (fun _ => True) 9 hmx ?_
 have hST : True := trivial
 have hG1 : w.drew.heap[g]? = some (.cells ((iLay.flat (l.take i) ++ Y) ++ (M ++ D)).toArray 51 (0, 0)) := HG.out.1
 have hG2 : w.drew.heap[g2]? = some (.cells (iLay.flat m ++ sp2).toArray 51 (0, 0)) := HG.out.2
 have hbd := (Below.refl B w).drew
 have HGD := hide (And.intro hG1 (And.intro hG2 hbd))
 clear hG1 hG2 hbd hov
 generalize w.drew = w1 at *
 refine tU 0 11 hST rfl ?_
 refine tU 1 11 hST rfl ?_
 refine tU 2 11 hST rfl ?_
 refine tU 3 11 hST rfl ?_
 refine tU 4 11 hST rfl ?_
 refine tU 5 11 hST rfl ?_
 refine tU 6 11 hST rfl ?_
 refine tU 7 11 hST rfl ?_
 refine oY 8 fun K hK => ?_
 refine wp_copy1 (.tmp 73) (.tmp 76) 22 22 rfl _ _ rfl rfl (HC1.out w1 HGD.out.1 _ _ _) ?_
 have hg3 := setRow_heap w1 g _ ((iLay.flat (l.take i) ++ Y) ++ (iLay.flat (l.drop i) ++ D)).toArray _ _ HGD.out.1
 have hb3 := below_setRow HGD.out.2.2 hBg ((iLay.flat (l.take i) ++ Y) ++ (iLay.flat (l.drop i) ++ D)).toArray
 have hg4 : (w1.setRow g ((iLay.flat (l.take i) ++ Y) ++ (iLay.flat (l.drop i) ++ D)).toArray).heap[g2]? = some (.cells (iLay.flat m ++ sp2).toArray 51 (0, 0)) := (hb3.block g2 hlt).trans HG.out.2
 have HG3 := hide (And.intro hg3 (And.intro hg4 hb3))
 clear hg3 hg4 hb3 HGD HG HC1
 generalize w1.setRow g ((iLay.flat (l.take i) ++ Y) ++ (iLay.flat (l.drop i) ++ D)).toArray = w2 at *
 refine hK.out _ _ (Or.inr trivial) ?_
 clear hK K
 try simp only [Act.put, pu]
 refine dnY ?_
 have hg5 := HG3.out.1
 rw [List.append_assoc] at hg5
 have hcp2 := HC2.out w2 hg5 HG3.out.2.1
 have hg6 := setRow_heap w2 g _ (iLay.flat (l.take i) ++ (iLay.flat m ++ (iLay.flat (l.drop i) ++ D))).toArray _ _ hg5
 have hb6 := below_setRow HG3.out.2.2 hBg (iLay.flat (l.take i) ++ (iLay.flat m ++ (iLay.flat (l.drop i) ++ D))).toArray
 have HG6 := hide (And.intro hg6 hb6)
 clear hg5 hg6 hb6 HG3 HC2
 generalize w2.setRow g (iLay.flat (l.take i) ++ (iLay.flat m ++ (iLay.flat (l.drop i) ++ D))).toArray = w3 at *
 go_wp2
 go_ret
 have hlen : (l.take i ++ (m ++ l.drop i)).length = n + k := by
  rw [List.length_append, List.length_append, List.length_take, List.length_drop, ← HL.out.1, ← HL.out.2]
  omega
 refine ⟨_, rfl, ?_, HG6.out.2⟩
 rw [← hlen]
 refine Own1.mk (sp := D) hBg ?_ (by unfold maxLen; exact hm) (by omega) (by rw [hlen]; exact HX.out.2.2.2.1)
 rw [HG6.out.1, iLay.flat_append, iLay.flat_append, List.append_assoc, List.append_assoc]
theorem insertI_grow (l m : List Dg.It) (i B g cap g2 c2 : Nat) (sp sp2 : List Value) (w : World) (hgl : g < w.heap.size) (hg : w.heap[g]? = some (.cells (iLay.flat l ++ sp).toArray 51 (0, 0))) (hcl : l.length ≤ cap) (hg2 : w.heap[g2]? = some (.cells (iLay.flat m ++ sp2).toArray 51 (0, 0))) (hlt : g2 < B) (hB : B ≤ w.heap.size) (hi : i < l.length) (hm0 : 0 < m.length) (hn : l.length + m.length ≤ 2000000) (hcap : cap < l.length + m.length) :
  Calls Tryz.prog 111 #[.slice (some ⟨g, 0, none⟩) l.length cap, .int .i64 i, .slice (some ⟨g2, 0, none⟩) m.length c2] w fun e w' => ∃ v', e = .returned v' ∧ Own1 iLay 51 w' B v' (l.take i ++ (m ++ l.drop i)) ∧ Below B w w' := by
 have hmx := hmxQ
 obtain ⟨inf, h1, h2, h3, h4⟩ := info_parts iInfo
 have hfm : (iLay.flat m).length = m.length * 7 := iLay.flat_len m
 have hX : (iLay.flat (l.take i)).length = i * 7 := (iLay.flat_split l i (by omega)).2
 have hD : (iLay.flat (l.drop i)).length = (l.length - i) * 7 := by rw [iLay.flat_len, List.length_drop]; rfl
 obtain ⟨n, hnl⟩ : ∃ n, n = l.length := ⟨_, rfl⟩
 obtain ⟨k, hkl⟩ : ∃ k, k = m.length := ⟨_, rfl⟩
 rw [← hnl] at hi hn hcap hD hcl
 rw [← hkl] at hm0 hn hcap hfm
 rw [← hnl, ← hkl]
 have hsrcg : ∀ (w1 : World), w1.heap[g]? = some (.cells (iLay.flat l ++ sp).toArray 51 (0, 0)) → ∀ (j : Nat) u, (iLay.flat l)[j]? = some u → w1.cell? ⟨g, j, none⟩ = some u := fun w1 h j u hj => by
  rw [cell_of_row _ _ _ _ _ (0, 0) h, ← Array.getElem?_toList]
  show (iLay.flat l ++ sp)[j]? = some u
  rw [List.getElem?_append_left (List.getElem?_eq_some_iff.1 hj).1]
  exact hj
 have hold : (Builtin.firstCells inf.size i (.slice (some ⟨g, 0, none⟩) i cap)).run Tryz.prog w.drew = .ok (iLay.flat (l.take i)).toArray w.drew := by
  refine run_firstCells_some w.drew inf.size i ⟨g, 0, none⟩ i cap (iLay.flat (l.take i)) (by rw [hX, h3]) fun j u hj => ?_
  rw [addr_off, Nat.zero_add]
  refine hsrcg w.drew hg j u ?_
  rw [iLay.flat_take, List.getElem?_take] at hj
  split at hj
  ·exact hj
  ·cases hj
 have hinf : inf.size = 7 := h3
 have hkk : (n : Int) + (k : Int) - (i : Int) = ((n + k - i : Nat) : Int) := by omega
 have hik : i + (n + k - i) = n + k := by omega
 obtain ⟨G, hG⟩ : ∃ G, G = grownCap w (n + k) cap 51 := ⟨_, rfl⟩
 obtain ⟨Z1, hZ1⟩ : ∃ Z : List Value, Z = (Builtin.zeroCells (Value.agg (Rq1 : Array Value)).cells (n + k - i)).toList := ⟨_, rfl⟩
 obtain ⟨Z2, hZ2⟩ : ∃ Z : List Value, Z = (Builtin.zeroCells (Value.agg (Rq1 : Array Value)).cells (G - (n + k))).toList := ⟨_, rfl⟩
 have hZ1l : Z1.length = (n + k - i) * 7 := by rw [hZ1]; exact zero7 _
 have hZ2l : Z2.length = (G - (n + k)) * 7 := by rw [hZ2]; exact zero7 _
 have hGn : n + k ≤ G := by rw [hG]; exact grownCap_ge w _ _ _
 have hG63 : G ≤ maxLen := by rw [hG]; exact grownCap_le_maxLen w (n + k) cap _ (by unfold maxLen; omega)
 have hrz : ∀ ty, (Builtin.append_ #[22, 3] ty #[.slice (some ⟨g, 0, none⟩) i cap, .int .i64 ((n : Int) + (k : Int) - (i : Int))]).run Tryz.prog w =
   .ok (.slice (some ⟨w.heap.size, 0, none⟩) (n + k) G) (w.drew.alloc (.cells (iLay.flat (l.take i) ++ (Z1 ++ Z2)).toArray 51)) := fun ty => by
  have h := Lib.run_append_grow_zeros (P := Tryz.prog) w 22 3 ty 51 inf _ .i64 .i64 underlying22 underlying3 h1 h2 (some ⟨g, 0, none⟩) i cap (iLay.flat (l.take i)) hold (n + k - i) (by omega) (by rw [hinf]; decide) (by omega) (by omega) (by rw [h4]; omega) (by rw [h4, hik]; exact growslice_fits (by omega) (by omega))
  rw [hik] at h
  rw [hkk]
  rw [← hG] at h
  rw [h]
  congr 3
  rw [hZ1, hZ2]
  simp
 obtain ⟨gN, hgN⟩ : ∃ gN, gN = w.heap.size := ⟨_, rfl⟩
 obtain ⟨W1, hW1⟩ : ∃ W1, W1 = w.drew.alloc (.cells (iLay.flat (l.take i) ++ (Z1 ++ Z2)).toArray 51) := ⟨_, rfl⟩
 have hN : W1.heap[gN]? = some (.cells (iLay.flat (l.take i) ++ (Z1 ++ Z2)).toArray 51 (0, 0)) := by rw [hW1, hgN]; exact heap_alloc_new w.drew _
 have hBN : Below w.heap.size w W1 := by rw [hW1]; exact (Below.refl _ w).drew.alloc (Nat.le_refl _) _
 rw [← hgN, ← hW1] at hrz
 have hZs : Z1 ++ Z2 = Z1.take (k * 7) ++ (Z1.drop (k * 7) ++ Z2) := by rw [← List.append_assoc, List.take_append_drop]
 have hcp1 : ∀ (w1 : World), w1.heap[gN]? = some (.cells (iLay.flat (l.take i) ++ (Z1 ++ Z2)).toArray 51 (0, 0)) → w1.heap[g2]? = some (.cells (iLay.flat m ++ sp2).toArray 51 (0, 0)) → ∀ ty dc, (Builtin.copy_ #[22, 22] ty #[.slice (some ⟨gN, i * 7, none⟩) (n + k - i) dc, .slice (some ⟨g2, 0, none⟩) k c2]).run Tryz.prog w1 = .ok (goInt k) (w1.setRow gN (iLay.flat (l.take i) ++ (iLay.flat m ++ (Z1.drop (k * 7) ++ Z2))).toArray) := fun w1 hw1 hw2 ty dc => by
  rw [hZs] at hw1
  have h := run_copy_any (P := Tryz.prog) w1 22 22 ty 51 gN (n + k - i) dc (some ⟨g2, 0, none⟩) k c2 (iLay.flat (l.take i)) (Z1.take (k * 7)) (Z1.drop (k * 7) ++ Z2) 51 (iLay.flat m) k 7 underlying22 infoItem7 hw1 (by simp only [Nat.min_def]; split <;> omega) hfm (by rw [List.length_take, hZ1l, hfm]; omega) ⟨_, rfl, fun j u hj => by
   rw [addr_off, Nat.zero_add, cell_of_row _ _ _ _ _ (0, 0) hw2, ← Array.getElem?_toList]
   show (iLay.flat m ++ sp2)[j]? = some u
   rw [List.getElem?_append_left (List.getElem?_eq_some_iff.1 hj).1]
   exact hj⟩ (iLay.flat_one _)
  rw [hX] at h
  exact h
 have hXm : (iLay.flat (l.take i) ++ iLay.flat m).length = (i + k) * 7 := by rw [List.length_append, hX, hfm, Nat.add_mul]
 have hcp2 : ∀ (w1 : World), w1.heap[gN]? = some (.cells ((iLay.flat (l.take i) ++ iLay.flat m) ++ (Z1.drop (k * 7) ++ Z2)).toArray 51 (0, 0)) → w1.heap[g]? = some (.cells (iLay.flat l ++ sp).toArray 51 (0, 0)) → ∀ ty dc sc, (Builtin.copy_ #[22, 22] ty #[.slice (some ⟨gN, (i + k) * 7, none⟩) (n + k - (i + k)) dc, .slice (some ⟨g, i * 7, none⟩) (n - i) sc]).run Tryz.prog w1 = .ok (goInt ((n - i : Nat) : Int)) (w1.setRow gN ((iLay.flat (l.take i) ++ iLay.flat m) ++ (iLay.flat (l.drop i) ++ Z2)).toArray) := fun w1 hw1 hw2 ty dc sc => by
  have h := run_copy_any (P := Tryz.prog) w1 22 22 ty 51 gN (n + k - (i + k)) dc (some ⟨g, i * 7, none⟩) (n - i) sc (iLay.flat (l.take i) ++ iLay.flat m) (Z1.drop (k * 7)) Z2 51 (iLay.flat (l.drop i)) (n - i) 7 underlying22 infoItem7 hw1 (by simp only [Nat.min_def]; split <;> omega) hD (by rw [List.length_drop, hZ1l, hD]; omega) ⟨_, rfl, fun j u hj => by
   rw [addr_off]
   refine hsrcg w1 hw2 _ u ?_
   rw [iLay.flat_drop, List.getElem?_drop] at hj
   exact hj⟩ (iLay.flat_one _)
  rw [hXm] at h
  exact h
 have hkz : ¬ ((k : Int) = 0) := by omega
 have hin : ¬ ((i : Int) = (n : Int)) := by omega
 have hcn : (cap : Int) < (n : Int) + (k : Int) := by omega
 have hw1 : IntKind.i64.wrap ((i : Int) + (k : Int)) = (i : Int) + (k : Int) := by rw [IntKind.wrap_i64]; omega
 have hb1 : (0 : Int) ≤ (i : Int) + (k : Int) := by omega
 have htn : ((i : Int) + (k : Int)).toNat = i + k := by omega
 have hb2 : ¬ (G = i + k) := by omega
 have hb3 : (i : Int) ≤ (n : Int) + (k : Int) := by omega
 have hb4 : ¬ (cap = i) := by omega
 have hb5 : ¬ (G = i) := by omega
 have hin2 : i ≤ n := by omega
 have hic : i ≤ cap := by omega
 have hiG : i + k ≤ G := by omega
 have hg2l : g2 < w.heap.size := by omega
 have hgw := (hBN.block g hgl).trans hg
 have hgw2 := (hBN.block g2 hg2l).trans hg2
 have HG := hide (And.intro hgw (And.intro hgw2 (And.intro hN hBN)))
 have HL := hide (And.intro hnl hkl)
 have HX := hide (And.intro hZ2l (And.intro hG63 hgN))
 have HC1 := hide hcp1
 have HC2 := hide hcp2
 have HRZ := hide hrz
 have hG64 : G ≤ 9223372036854775807 := by unfold maxLen at hG63; omega
 clear hgw hgw2 hN hBN hgN hnl hkl hZ2l hG63 hcp1 hcp2 hZ1l hZs hZ1 hZ2 hG hXm hX hD hfm hold hsrcg hkk hik hinf h1 h2 h3 h4 hg hg2 hW1 hrz
 go_enter func111, ntmps111
 go_upto_region 10 with (at_builtin; go_loud (refine step_append1 rfl (.tmp 34) (.tmp 39) 22 3 rfl _ _ rfl rfl (HRZ.out _) ?_))
 clear HRZ
 have hcp1 := HC1.out W1 HG.out.2.2.1 HG.out.2.1
 have hg3 := setRow_heap W1 gN _ (iLay.flat (l.take i) ++ (iLay.flat m ++ (Z1.drop (k * 7) ++ Z2))).toArray _ _ HG.out.2.2.1
 have hb3' := below_setRow HG.out.2.2.2 (Nat.le_of_eq HX.out.2.2.symm) (iLay.flat (l.take i) ++ (iLay.flat m ++ (Z1.drop (k * 7) ++ Z2))).toArray
 have hg4 : (W1.setRow gN (iLay.flat (l.take i) ++ (iLay.flat m ++ (Z1.drop (k * 7) ++ Z2))).toArray).heap[g]? = some (.cells (iLay.flat l ++ sp).toArray 51 (0, 0)) := by
  have h := (setRow_other W1 gN g (iLay.flat (l.take i) ++ (iLay.flat m ++ (Z1.drop (k * 7) ++ Z2))).toArray (by have := HX.out.2.2; omega))
  rw [h]
  exact HG.out.1
 have HG3 := hide (And.intro hg3 (And.intro hg4 hb3'))
 clear hg3 hg4 hb3' HG HC1
 generalize W1.setRow gN (iLay.flat (l.take i) ++ (iLay.flat m ++ (Z1.drop (k * 7) ++ Z2))).toArray = w2 at *
 go_upto_region 11 with (fail)
 clear hcp1
 refine wp_region_noPanic ?_
 refine wp_region_L (fun _ => True) 9 hmx ?_
 have hST : True := trivial
 have hG1 : w2.drew.heap[gN]? = some (.cells ((iLay.flat (l.take i) ++ iLay.flat m) ++ (Z1.drop (k * 7) ++ Z2)).toArray 51 (0, 0)) := by have h := HG3.out.1; rw [← List.append_assoc] at h; exact h
 have hG2 : w2.drew.heap[g]? = some (.cells (iLay.flat l ++ sp).toArray 51 (0, 0)) := HG3.out.2.1
 have hbd := HG3.out.2.2.drew
 have HGD := hide (And.intro hG1 (And.intro hG2 hbd))
 clear hG1 hG2 hbd HG3
 generalize w2.drew = w3 at *
 refine tU 0 11 hST rfl ?_
 refine tU 1 11 hST rfl ?_
 refine tU 2 11 hST rfl ?_
 refine tU 3 11 hST rfl ?_
 refine tU 4 11 hST rfl ?_
 refine tU 5 11 hST rfl ?_
 refine tU 6 11 hST rfl ?_
 refine tU 7 11 hST rfl ?_
 refine oY 8 fun K hK => ?_
 refine wp_copy1 (.tmp 50) (.tmp 53) 22 22 rfl _ _ rfl rfl (HC2.out w3 HGD.out.1 HGD.out.2.1 _ _ _) ?_
 have hg5 := setRow_heap w3 gN _ ((iLay.flat (l.take i) ++ iLay.flat m) ++ (iLay.flat (l.drop i) ++ Z2)).toArray _ _ HGD.out.1
 have hb5 := below_setRow HGD.out.2.2 (Nat.le_of_eq HX.out.2.2.symm) ((iLay.flat (l.take i) ++ iLay.flat m) ++ (iLay.flat (l.drop i) ++ Z2)).toArray
 have HG6 := hide (And.intro hg5 hb5)
 clear hg5 hb5 HGD HC2
 generalize w3.setRow gN ((iLay.flat (l.take i) ++ iLay.flat m) ++ (iLay.flat (l.drop i) ++ Z2)).toArray = w4 at *
 refine hK.out _ _ (Or.inr trivial) ?_
 clear hK K
 try simp only [Act.put, pu]
 refine dnY ?_
 go_wp2
 go_ret
 have hlen : (l.take i ++ (m ++ l.drop i)).length = n + k := by
  rw [List.length_append, List.length_append, List.length_take, List.length_drop, ← HL.out.1, ← HL.out.2]
  omega
 refine ⟨_, rfl, ?_, HG6.out.2.mono hB⟩
 rw [← hlen]
 refine Own1.mk (sp := Z2) (by rw [HX.out.2.2]; exact hB) ?_ HX.out.2.1 (by omega) (by rw [hlen]; exact HX.out.1)
 rw [HG6.out.1, iLay.flat_append, iLay.flat_append, List.append_assoc, List.append_assoc, List.append_assoc]
theorem insertI_any (v : Value) (l m : List Dg.It) (i B g2 c2 : Nat) (sp2 : List Value) (w : World) (hO : Own1 iLay 51 w B v l) (hg2 : w.heap[g2]? = some (.cells (iLay.flat m ++ sp2).toArray 51 (0, 0))) (hlt : g2 < B) (hB : B ≤ w.heap.size) (hi : i ≤ l.length) (hm0 : 0 < m.length) (hn : l.length + m.length ≤ 2000000) :
  Calls Tryz.prog 111 #[v, .int .i64 i, .slice (some ⟨g2, 0, none⟩) m.length c2] w fun e w' => ∃ v', e = .returned v' ∧ Own1 iLay 51 w' B v' (l.take i ++ (m ++ l.drop i)) ∧ Below B w w' := by
 by_cases hil : i < l.length
 ·obtain ⟨g, cap, sp, rfl, hBg, hgl, hg, hc, hm, hs⟩ := hO.form (by omega)
  rcases Nat.lt_or_ge cap (l.length + m.length) with h | h
  ·exact insertI_grow l m i B g cap g2 c2 sp sp2 w hgl hg hc hg2 hlt hB hil hm0 hn h
  ·exact insertI_room l m i B g cap g2 c2 sp sp2 w hBg hg hs hm hg2 hlt hil hm0 hn h
 ·obtain rfl : i = l.length := by omega
  have h := insertI_end v l m B g2 c2 sp2 w hO hg2 hlt hB hm0 hn
  rw [List.take_length, List.drop_length, List.append_nil]
  exact h
theorem valid1_any (k : Int) (A : Option Addr) (n c : Nat) (w : World) : Calls Tryz.prog 39 #[.int .i64 k, .slice A n c] w fun e w' => e = .returned (.tuple #[]) ∧ w' = w := by
 go_enter func39, ntmps39
 go_wp2
 go_end0
 exact ⟨rfl, rfl⟩
theorem valid_visit (l : List Dg.It) (B0 n0 : Nat) : Visit l 39 #[] B0 n0 (fun _ S _ => S = []) where
 enters := enters_of func39 (by kernel_rfl) rfl
 stable := fun _ _ _ _ h _ _ => h
 lt := fun _ _ _ h g hg => by rw [h] at hg; cases hg
 call := fun k S W o A c vs s _ h _ _ _ _ _ => by
  refine (valid1_any (k : Int) A o.length c W).mono ?_
  rintro e W' ⟨rfl, rfl⟩
  subst h
  exact ⟨rfl, [], rfl, Off.refl _ _, fun g hg => by cases hg⟩
theorem Code.valid_of (l : List Dg.It) (A : Option Addr) (n c : Nat) (hl : l.length = n) (hw : ∀ x ∈ l, ItW x) (hn : n ≤ 1048576) (w : World) (hI : Its w w.heap.size A l) (R : Bool) (hR : Dg.validC l = R) :
  Calls Tryz.prog 15 #[.agg #[.slice A n c]] w fun e w' => e = .returned (.bool R) ∧ Below w.heap.size w w' := by
 have hx := nwB w (.cells #[.slice A n c] 24)
 have hcc := iCells0 (heap_alloc_new w (.cells #[.slice A n c] 24))
 have HI := hide hI; have HR := hide hR; have HW := hide hw; have HL := hide hl
 clear hI hR hw hl
 go_enter func15, ntmps15
 go_wp2_with fail
 generalize w.alloc (.cells #[.slice A n c] 24) = w1 at *
 refine (walk_any l A n c HL.out HW.out hn w.heap.size w1 (HI.out.below hx) hx.size 39 #[] (fun _ S _ => S = []) (valid_visit l _ _) [] rfl R HR.out).mono ?_
 rintro e w2 ⟨rfl, k, S, _, _, ho, _⟩
 have hb := bnext hx ho.nil
 clear hcc
 go_wp2
 go_ret
 exact ⟨rfl, hb⟩
theorem out_walk {F : Nat} {lb : Array Value} (l : List Dg.It) (A : Option Addr) (n c : Nat) (hl : l.length = n) (hw : ∀ x ∈ l, ItW x) (hn : n ≤ 1048576) (B0 bo : Nat) (w : World) (hI : Its w B0 A l) (hB : B0 ≤ bo) (hbo : bo < w.heap.size) (Low : World → Prop) (hLow : ∀ W W', Low W → (∀ g, g < w.heap.size → g ≠ bo → W'.heap[g]? = W.heap[g]?) → Low W') (f : List (List ByteArray) → List ByteArray)
  (en : ∀ args w, (callFunc F args).run Tryz.prog w = .ok (.enter F args) w)
  (hc : ∀ (k : Nat) (W : World) (v : Value) (o : List ByteArray) (A : Option Addr) (c : Nat) (vs : List (List ByteArray)) (s : Dg.Wk), k < l.length → Low W → OutAt bo w.heap.size W v (f vs) → w.heap.size ≤ W.heap.size → Dg.walkTo l (k + 1) = some (vs ++ [o], s) → vs.length = k → Strs W W.heap.size A o → o.length ≤ c →
   Calls Tryz.prog F (#[.int .i64 (k : Int), .slice A o.length c] ++ lb) W fun e W' => e = .returned (.tuple #[]) ∧ OutStep bo w.heap.size W W' v (f (vs ++ [o])))
  (h0 : OutAt bo w.heap.size w (.slice none 0 0) (f [])) (hl0 : Low w) (R : Bool) (hR : Dg.validC l = R) :
  Calls Tryz.prog 38 #[.agg #[.slice A n c], .func (.func F) #[] lb] w fun e w' => e = .returned (.bool R) ∧ ∃ v L, (R = true → L = f (Dg.visits l)) ∧ OutAt bo w.heap.size w' v L ∧ Low w' ∧ Below bo w w' ∧ w.heap.size ≤ w'.heap.size := by
 refine (walk_any l A n c hl hw hn B0 w hI (by omega) F lb _ (out_visit hB hbo Low hLow f en hc) [bo] ⟨.slice none 0 0, [], ⟨[], []⟩, rfl, h0, rfl, hl0⟩ R hR).mono ?_
 rintro e w' ⟨rfl, k, S, hk, ⟨v, vs, s, rfl, h1, h2, h3⟩, ho, _⟩
 refine ⟨rfl, v, f vs, fun hr => ?_, h1, h3, ho.below (by omega) (fun g hg => by rw [List.mem_singleton.1 hg]; exact Nat.le_refl _), ho.size⟩
 have := hk hr
 subst this
 rw [hr] at hR
 obtain ⟨s', h4, _⟩ := Dg.valid_walk hR
 rw [hl] at h4
 rw [h2] at h4
 cases h4
 rfl
def belowF (l : List Dg.It) (id : ByteArray) (vs : List (List ByteArray)) : List ByteArray := ((vs.zip l).filter fun p => Dg.inB p.1 id).map fun p => p.2.id
theorem setCell_row1 {w : World} {g : Nat} {a : Value} {T : TypeId} (h : w.heap[g]? = some (.cells #[a] T (0, 0))) (u : Value) : (w.setCell ⟨g, 0, none⟩ u).heap[g]? = some (.cells #[u] T (0, 0)) := by
 simp only [World.setCell, Array.getElem?_modify, h]
 simp
theorem zip_snoc {α β : Type} (vs : List α) (l : List β) (o : α) (hk : vs.length < l.length) : (vs ++ [o]).zip l = vs.zip l ++ [(o, l[vs.length])] := by
 have e : l = l.take vs.length ++ l[vs.length] :: l.drop (vs.length + 1) := by
  rw [← List.drop_eq_getElem_cons hk, List.take_append_drop]
 have h1 : vs.zip l = vs.zip (l.take vs.length) := by
  conv => lhs; rw [e]
  have h2 : (vs ++ []).zip (l.take vs.length ++ l[vs.length] :: l.drop (vs.length + 1)) = vs.zip (l.take vs.length) ++ [].zip (l[vs.length] :: l.drop (vs.length + 1)) := List.zip_append (by rw [List.length_take]; omega)
  rw [List.append_nil] at h2
  rw [h2]
  simp
 conv => lhs; rw [e]
 rw [List.zip_append (by rw [List.length_take]; omega), h1]
 rfl
theorem belowF_snoc (l : List Dg.It) (id : ByteArray) (vs : List (List ByteArray)) (o : List ByteArray) (hk : vs.length < l.length) : belowF l id (vs ++ [o]) = if Dg.inB o id = true then belowF l id vs ++ [l[vs.length].id] else belowF l id vs := by
 unfold belowF
 rw [zip_snoc vs l o hk, List.filter_append, List.map_append]
 by_cases h : Dg.inB o id = true
 ·rw [if_pos h, List.filter_cons_of_pos (by exact h), List.filter_nil]; rfl
 ·rw [if_neg h, List.filter_cons_of_neg (by exact h), List.filter_nil, List.map_nil, List.append_nil]
theorem belowF_len (l : List Dg.It) (id : ByteArray) (vs : List (List ByteArray)) : (belowF l id vs).length ≤ l.length := by
 unfold belowF
 rw [List.length_map]
 exact Nat.le_trans (List.length_filter_le _ _) (by rw [List.length_zip]; omega)
theorem below1_any (l : List Dg.It) (AI : Option Addr) (n c : Nat) (hl : l.length = n) (id : ByteArray) (B0 n0 bo b2 b3 : Nat) (hbo : bo < n0) (h2 : b2 < n0 ∧ b2 ≠ bo) (hB2 : B0 ≤ bo) (k : Nat) (hk : k < l.length) (W : World) (hI : Its W B0 AI l)
  (r2 : W.heap[b2]? = some (.cells #[.slice AI n c] 24 (0, 0))) (r3 : W.heap[b3]? = some (.cells #[.string id] 9 (0, 0))) (v : Value) (L : List ByteArray) (hO : OutAt bo n0 W v L) (hLl : L.length ≤ 1048576) (hn0 : n0 ≤ W.heap.size)
  (o : List ByteArray) (A : Option Addr) (m co : Nat) (hS : Strs W W.heap.size A o) (hm : o.length = m) (hom : m ≤ 1048576) :
  Calls Tryz.prog 130 #[.int .i64 (k : Int), .slice A m co, .pointer (some ⟨b3, 0, none⟩), .pointer (some ⟨bo, 0, none⟩), .pointer (some ⟨b2, 0, none⟩)] W fun e W' => e = .returned (.tuple #[]) ∧ OutStep bo n0 W W' v (if Dg.inB o id = true then L ++ [l[k].id] else L) := by
 have c3 := iCells0 r3
 obtain ⟨ib, hib⟩ : ∃ b, Dg.inB o id = b := ⟨_, rfl⟩
 rw [hib]
 have HM := hide hm; have HIB := hide hib
 clear hm hib
 go_enter func130, ntmps130
 go_wp2_with fail
 refine (scontains_s A m co o id _ HM.out (by omega) hS ib HIB.out).mono ?_
 rintro e w4 ⟨rfl, hw4⟩
 rw [hw4]
 clear hw4 HIB HM hS
 cases ib with
 | false =>
  go_wp2
  go_end0
  exact ⟨rfl, OutStep.none hO (Below.refl _ _)⟩
 | true =>
  obtain ⟨b, off, rfl, hbl, hcc⟩ := hI.get hk
  have p1 : W.cell? ⟨b, off + k * 7 + 1, none⟩ = some (.string l[k].id) := hcc 1 _ rfl
  have hidx : (k : Int) < (n : Int) := by omega
  have hk0 : (0 : Int) ≤ (k : Int) := by omega
  obtain ⟨X, hX⟩ : ∃ X, l[k].id = X := ⟨_, rfl⟩
  rw [hX] at p1
  have HX := hide hX
  clear hX
  have hc2 := iCells0 r2
  have hco := iCells0 hO.row
  clear hcc c3 r3
  go_upto_region 1 with (fail)
  have hmx := hmxQ
  have hOd : OutAt bo n0 W.drew v L := ⟨hO.row, hO.own.below (Below.refl W.heap.size W).drew⟩
  have hHeld : (fun X_ : World => X_.cell? ⟨bo, 0, none⟩ = some v ∧ X_.cell? ⟨b2, 0, none⟩ = some (.slice (some ⟨b, off, none⟩) n c) ∧ X_.cell? ⟨b, off + k * 7 + 1, none⟩ = some (.string X)) W.drew := ⟨hco, hc2, p1⟩
  have hsz : W.heap.size = W.drew.heap.size := rfl
  have hgr0 : Off (outS bo v) W W.drew := Off.of_below (Below.refl _ _).drew
  have r2d : W.drew.heap[b2]? = some (.cells #[.slice (some ⟨b, off, none⟩) n c] 24 (0, 0)) := r2
  refine wp_region_noPanic ?_
  refine wp_region_L (fun X_ : World => X_.cell? ⟨bo, 0, none⟩ = some v ∧ X_.cell? ⟨b2, 0, none⟩ = some (.slice (some ⟨b, off, none⟩) n c) ∧ X_.cell? ⟨b, off + k * 7 + 1, none⟩ = some (.string X)) 9 hmx ?_
  rw [hsz] at hn0
  generalize W.drew = u0 at *
  clear p1 hc2 hco r2 hO hI hsz
  refine tkY 0 14 ?_ rfl ?_ hHeld ?_
  rotate_left
  ·intro wS hS; obtain ⟨hS1, hS2, hS3⟩ := hS; go_simp; (try with_reducible rfl)
  simp only [Act.put, List.getElem_toArray, List.getElem_cons_zero, List.setIfInBounds_toArray, List.set_cons_succ, List.set_cons_zero]
  refine tU 1 14 hHeld rfl ?_ (by intro wS hS; obtain ⟨hS1, hS2, hS3⟩ := hS; go_simp; (try with_reducible rfl))
  refine tU 2 14 hHeld rfl ?_ (by intro wS hS; obtain ⟨hS1, hS2, hS3⟩ := hS; go_simp; (try with_reducible rfl))
  refine tU 3 14 hHeld rfl ?_ (by intro wS hS; obtain ⟨hS1, hS2, hS3⟩ := hS; go_simp; (try with_reducible rfl))
  refine tU 4 14 hHeld rfl ?_ (by intro wS hS; obtain ⟨hS1, hS2, hS3⟩ := hS; go_simp; (try with_reducible rfl))
  refine tU 5 14 hHeld rfl ?_ (by intro wS hS; obtain ⟨hS1, hS2, hS3⟩ := hS; go_simp; (try with_reducible rfl))
  refine tU 6 14 hHeld rfl ?_ (by intro wS hS; obtain ⟨hS1, hS2, hS3⟩ := hS; go_simp; (try with_reducible rfl))
  refine oY 7 fun K hK => ?_
  go_simp
  have hx7 := nwB u0 (.cells #[.string X] 9)
  have hO7 : OutAt bo n0 (u0.alloc (.cells #[.string X] 9)) v L := hOd.same (fun g hg => hx7.block g (by
   rcases mem_outS hg with rfl | e
   ·exact lt_of_block hOd.row
   ·exact (OwnV.lt hOd.own e).2))
  have hHeld7 : (fun X_ : World => X_.cell? ⟨bo, 0, none⟩ = some v ∧ X_.cell? ⟨b2, 0, none⟩ = some (.slice (some ⟨b, off, none⟩) n c) ∧ X_.cell? ⟨b, off + k * 7 + 1, none⟩ = some (.string X)) (u0.alloc (.cells #[.string X] 9)) := ⟨(hx7.cell (by show bo < _; omega)).trans hHeld.1, (hx7.cell (by show b2 < _; omega)).trans hHeld.2.1, (hx7.cell (by show b < _; omega)).trans hHeld.2.2⟩
  refine hK.out _ _ (Or.inr hHeld7) ?_
  clear hK K hHeld
  try simp only [Act.put, pu]
  refine oY 8 fun K hK => ?_
  refine wp_ag (.tmp 10) (.tmp 17) (by rfl) n0 v L [X] (by rfl) hO7.own ⟨u0.heap.size, 0, none⟩ 1 1 (by rfl) rfl (fun j s hj => by
   cases j with
   | zero => cases hj; exact cell_of_row _ _ _ _ _ (0, 0) (heap_alloc_new u0 _)
   | succ j => cases hj) (by omega) (Nat.le_trans hn0 hx7.size) ?_
  intro v8 u8 hO8 hg8 hat8
  have hvb : ∀ g, v.ownBlock = some g → n0 ≤ g := fun g hg => (OwnV.lt hOd.own hg).1
  have hrow8 : ∀ g, g < n0 → u8.heap[g]? = (u0.alloc (.cells #[.string X] 9)).heap[g]? := fun g hg => hg8.block g (Nat.lt_of_lt_of_le hg (Nat.le_trans hn0 hx7.size)) (fun e => by have := hvb g e.symm; omega)
  have hHeld8 : (fun X_ : World => X_.cell? ⟨bo, 0, none⟩ = some v ∧ X_.cell? ⟨b2, 0, none⟩ = some (.slice (some ⟨b, off, none⟩) n c) ∧ X_.cell? ⟨b, off + k * 7 + 1, none⟩ = some (.string X)) u8 := ⟨(World.cell?_of_block (a := ⟨bo, 0, none⟩) (hrow8 bo hbo)).trans hHeld7.1, (World.cell?_of_block (a := ⟨b2, 0, none⟩) (hrow8 b2 h2.1)).trans hHeld7.2.1, (World.cell?_of_block (a := ⟨b, off + k * 7 + 1, none⟩) (hrow8 b (by omega))).trans hHeld7.2.2⟩
  refine hK.out _ _ (Or.inr hHeld8) ?_
  clear hK K hHeld7
  try simp only [Act.put, pu]
  have hrowo : u8.heap[bo]? = some (.cells #[v] 93 (0, 0)) := (hrow8 bo hbo).trans hO7.row
  have fz := frozen_of_row _ bo 0 _ _ hrowo
  have hoc := hHeld8.1
  obtain ⟨A8, c8, e8, _, _⟩ := hO8.strs
  rw [show (L ++ [X]).length = L.length + 1 by simp] at e8
  subst e8
  refine oY 9 fun K hK => ?_
  go_simp
  refine hK.out _ _ (Or.inl (by decide +kernel)) ?_
  clear hK K
  try simp only [Act.put, pu]
  have hstep : OutStep bo n0 W (u8.setCell ⟨bo, 0, none⟩ (.slice A8 (L.length + 1) c8)) v (L ++ [X]) := by
   refine ⟨_, ⟨setCell_row1 hrowo _, OwnV.same hO8 (fun g hg => Below.heap_setCell _ _ _ _ (by show g ≠ bo; have := (OwnV.lt hO8 hg).1; omega))⟩, ?_, fun g hg => ?_⟩
   ·refine ((hgr0.trans (Off.of_below (S := outS bo v) hx7) (fun _ h => Or.inl h)).trans (Off.of_grown (S := outS bo v) hg8 (fun g hg => outS_own hg)) (fun _ h => Or.inl h)).setCell (p := ⟨bo, 0, none⟩) (List.mem_cons_self ..) _
   ·rcases hat8 with e | e
    ·exact Or.inl (e.symm.trans hg)
    ·rw [e] at hg
     cases hg
     have h9 := hgr0.size
     exact Or.inr (Nat.le_trans h9 hx7.size)
  have HS := hide hstep
  clear hstep fz hoc hrowo hHeld8 hO8 hg8 hat8 hO7 hOd hgr0 hrow8 hvb hx7
  refine dnY ?_
  go_wp2
  go_end0
  exact ⟨rfl, by have h9 := HS.out; rw [← HX.out] at h9; exact h9⟩
theorem iAlloc3 (w : World) (A B C : Obj) : (((w.alloc A).alloc B).alloc C).heap[w.heap.size]? = some A ∧ (((w.alloc A).alloc B).alloc C).heap[w.heap.size + 1]? = some B ∧ (((w.alloc A).alloc B).alloc C).heap[w.heap.size + 1 + 1]? = some C ∧ Below w.heap.size w (((w.alloc A).alloc B).alloc C) ∧ (((w.alloc A).alloc B).alloc C).heap.size = w.heap.size + 3 := by
 have s1 : (w.alloc A).heap.size = w.heap.size + 1 := by simp
 have s2 : ((w.alloc A).alloc B).heap.size = w.heap.size + 1 + 1 := by simp
 have x1 := nwB w A
 have x2 := Below.news (Below.refl (w.alloc A).heap.size (w.alloc A)) B
 have x3 := Below.news (Below.refl ((w.alloc A).alloc B).heap.size ((w.alloc A).alloc B)) C
 have r1 := heap_alloc_new w A
 have r2 := heap_alloc_new (w.alloc A) B
 have r3 := heap_alloc_new ((w.alloc A).alloc B) C
 rw [s1] at r2
 rw [s2] at r3
 exact ⟨iNext (iNext r1 x2) x3, iNext r2 x3, r3, bnext (bnext x1 x2) x3, by simp⟩
theorem visits_le (l : List Dg.It) (h : Dg.validC l = true) : (Dg.visits l).length = l.length := by
 obtain ⟨s, h1, _⟩ := Dg.valid_walk h
 exact Dg.walk_len (Nat.le_refl _) h1
def belowC (l : List Dg.It) (id : ByteArray) : List ByteArray := if Dg.validC l = true then belowF l id (Dg.visits l) else []
theorem op_short {l : List Dg.It} {k : Nat} (hk : k < l.length) {vs : List (List ByteArray)} {o : List ByteArray} {s : Dg.Wk} (h : Dg.walkTo l (k + 1) = some (vs ++ [o], s)) : o.length ≤ k := by
 obtain ⟨vs0, s0, o', h1, h2, h3⟩ := Dg.walk_step hk h
 obtain ⟨_, e⟩ := List.append_inj' h3 rfl
 cases e
 obtain ⟨_, _, j, _, ho, _⟩ := Dg.stepI_some h2
 have := op_len (by omega) h1
 rw [ho, List.length_take]
 omega
theorem Code.below_of (l : List Dg.It) (A : Option Addr) (n c : Nat) (hl : l.length = n) (hw : ∀ x ∈ l, ItW x) (hn : n ≤ 1048576) (id : ByteArray) (w : World) (hI : Its w w.heap.size A l) (L : List ByteArray) (hL : belowC l id = L) :
  Calls Tryz.prog 116 #[.agg #[.slice A n c], .string id] w fun e w' => (∃ A' c', e = .returned (.slice A' L.length c') ∧ L.length ≤ c' ∧ Strs w' w'.heap.size A' L) ∧ Below w.heap.size w w' := by
 obtain ⟨r2, r3, ro, hb, hs⟩ := iAlloc3 w (.cells #[.slice A n c] 24) (.cells #[.string id] 9) (.cells Rq3 93)
 have hmf : ∀ (fn : Fn) (first cap : Array Value) (w : World), (Instr.makeFunc fn first cap).run Tryz.prog w = .ok (.func fn first cap) w := fun _ _ _ _ => rfl
 have HI := hide hI; have HW := hide hw; have HL := hide hl; have HQ := hide hL
 clear hI hw hl hL
 go_enter func116, ntmps116
 go_wp2_with fail
 obtain ⟨R, hR⟩ : ∃ R, Dg.validC l = R := ⟨_, rfl⟩
 generalize ((w.alloc (.cells #[.slice A n c] 24)).alloc (.cells #[.string id] 9)).alloc (.cells Rq3 93) = W1 at *
 refine (out_walk l A n c HL.out HW.out hn w.heap.size (w.heap.size + 1 + 1) W1 (HI.out.below hb) (by omega) (by omega) (fun W => W.heap[w.heap.size]? = some (.cells #[.slice A n c] 24 (0, 0)) ∧ W.heap[w.heap.size + 1]? = some (.cells #[.string id] 9 (0, 0)) ∧ Its W w.heap.size A l)
  (fun W W' h hg => ⟨(hg _ (by omega) (by omega)).trans h.1, (hg _ (by omega) (by omega)).trans h.2.1, h.2.2.same fun g hg' => hg g (by omega) (by omega)⟩) (belowF l id) (enters_of func130 (by kernel_rfl) rfl)
  (fun k W v o A' c' vs s hk hlow hO hn0 hwt hvl hS hoc => by
   have h1 := below1_any l A n c HL.out id w.heap.size W1.heap.size (w.heap.size + 1 + 1) w.heap.size (w.heap.size + 1) (by omega) ⟨by omega, by omega⟩ (by omega) k hk W hlow.2.2 hlow.1 hlow.2.1 v _ hO (Nat.le_trans (belowF_len l id vs) (by rw [HL.out]; exact hn)) hn0 o A' o.length c' hS rfl (by have := op_short hk hwt; have := HL.out; omega)
   subst hvl
   rw [belowF_snoc l id vs o hk]
   exact h1)
  ⟨ro, OwnS.nil _ _⟩ ⟨r2, r3, HI.out.below hb⟩ R hR).mono ?_
 rintro e w2 ⟨rfl, v, L', hL', hO2, _, hb2, hsz2⟩
 have hb' : Below w.heap.size w w2 := hb.trans (hb2.mono (by omega))
 obtain ⟨A2, c2, rfl, hc2, hS2⟩ := hO2.own.strs
 have hcc := iCells0 hO2.row
 have hq := HQ.out
 unfold belowC at hq
 rw [hR] at hq
 have HLL := hide hL'
 clear hL' hb hb2 r2 r3 ro hO2 hR HQ
 cases R with
 | false =>
  rw [if_neg Bool.false_ne_true] at hq
  subst hq
  go_wp2
  go_ret
  exact ⟨⟨none, 0, rfl, Nat.le_refl _, Strs.nil _ _ _⟩, hb'⟩
 | true =>
  rw [if_pos rfl] at hq
  have e9 := HLL.out rfl
  rw [hq] at e9
  subst e9
  have HQ2 := hide hq
  clear hq
  go_wp2
  go_ret
  exact ⟨⟨A2, c2, rfl, hc2, hS2⟩, hb'⟩
theorem Its.cells {w : World} {B b off : Nat} {l : List Dg.It} (h : Its w B (some ⟨b, off, none⟩) l) {k : Nat} (hk : k < l.length) (x : Dg.It) (hx : l[k] = x) : b < B ∧ w.cell? ⟨b, off + k * 7, none⟩ = some (.int .i64 x.kind) ∧ w.cell? ⟨b, off + k * 7 + 1, none⟩ = some (.string x.id) ∧ w.cell? ⟨b, off + k * 7 + 2, none⟩ = some (.string x.parent) ∧ w.cell? ⟨b, off + k * 7 + 3, none⟩ = some (.string x.number) ∧
  w.cell? ⟨b, off + k * 7 + 4, none⟩ = some (.string x.north) ∧ w.cell? ⟨b, off + k * 7 + 5, none⟩ = some (.string x.south) ∧ w.cell? ⟨b, off + k * 7 + 6, none⟩ = some (.bool x.gone) := by
 obtain ⟨b', off', e, hb, hc⟩ := h.get hk
 cases e
 rw [hx] at hc
 exact ⟨hb, hc 0 _ rfl, hc 1 _ rfl, hc 2 _ rfl, hc 3 _ rfl, hc 4 _ rfl, hc 5 _ rfl, hc 6 _ rfl⟩
theorem Its.some {w : World} {B : Nat} {A : Option Addr} {l : List Dg.It} (h : Its w B A l) {k : Nat} (hk : k < l.length) : ∃ b off, A = some ⟨b, off, none⟩ := by
 obtain ⟨b, off, e, _⟩ := h.get hk
 exact ⟨b, off, e⟩
theorem iAlloc2 (w : World) (A B : Obj) : ((w.alloc A).alloc B).heap[w.heap.size]? = some A ∧ ((w.alloc A).alloc B).heap[w.heap.size + 1]? = some B ∧ Below w.heap.size w ((w.alloc A).alloc B) ∧ ((w.alloc A).alloc B).heap.size = w.heap.size + 2 := by
 have s1 : (w.alloc A).heap.size = w.heap.size + 1 := by simp
 have x1 := nwB w A
 have x2 := Below.news (Below.refl (w.alloc A).heap.size (w.alloc A)) B
 have r1 := heap_alloc_new w A
 have r2 := heap_alloc_new (w.alloc A) B
 rw [s1] at r2
 exact ⟨iNext r1 x2, r2, bnext x1 x2, by simp⟩
theorem flag_walk {F : Nat} {lb : Array Value} (l : List Dg.It) (A : Option Addr) (n c : Nat) (hl : l.length = n) (hw : ∀ x ∈ l, ItW x) (hn : n ≤ 1048576) (B0 bo : Nat) (w : World) (hI : Its w B0 A l) (hB : B0 ≤ bo) (hbo : bo < w.heap.size) (Low : World → Prop) (hLow : ∀ W W', Low W → (∀ g, g < w.heap.size → g ≠ bo → W'.heap[g]? = W.heap[g]?) → Low W') (f : List (List ByteArray) → Bool)
  (en : ∀ args w, (callFunc F args).run Tryz.prog w = .ok (.enter F args) w)
  (hc : ∀ (k : Nat) (W : World) (o : List ByteArray) (A : Option Addr) (c : Nat) (vs : List (List ByteArray)) (s : Dg.Wk), k < l.length → Low W → W.heap[bo]? = some (.cells #[.bool (f vs)] 4 (0, 0)) → w.heap.size ≤ W.heap.size → Dg.walkTo l (k + 1) = some (vs ++ [o], s) → vs.length = k → Strs W W.heap.size A o → o.length ≤ c →
   Calls Tryz.prog F (#[.int .i64 (k : Int), .slice A o.length c] ++ lb) W fun e W' => e = .returned (.tuple #[]) ∧ W'.heap[bo]? = some (.cells #[.bool (f (vs ++ [o]))] 4 (0, 0)) ∧ Off [bo] W W')
  (h0 : w.heap[bo]? = some (.cells #[.bool (f [])] 4 (0, 0))) (hl0 : Low w) (R : Bool) (hR : Dg.validC l = R) :
  Calls Tryz.prog 38 #[.agg #[.slice A n c], .func (.func F) #[] lb] w fun e w' => e = .returned (.bool R) ∧ ∃ b, (R = true → b = f (Dg.visits l)) ∧ w'.heap[bo]? = some (.cells #[.bool b] 4 (0, 0)) ∧ Low w' ∧ Below bo w w' := by
 have hv : Visit l F lb B0 w.heap.size (fun k S W => S = [bo] ∧ ∃ vs s, W.heap[bo]? = some (.cells #[.bool (f vs)] 4 (0, 0)) ∧ Dg.walkTo l k = some (vs, s) ∧ Low W) := {
  enters := en
  stable := fun k S W W' h hS hb => by
   obtain ⟨rfl, vs, s, h1, h2, h3⟩ := h
   exact ⟨rfl, vs, s, (hS bo (List.mem_singleton.2 rfl)).trans h1, h2, hLow W W' h3 fun g hg _ => hb.block g hg⟩
  lt := fun k S W h g hg => by
   obtain ⟨rfl, vs, s, h1, h2, h3⟩ := h
   rw [List.mem_singleton.1 hg]
   exact ⟨hB, lt_of_block h1⟩
  call := fun k S W o A c vs s hk h hw hvl hS hoc hn => by
   obtain ⟨rfl, vs0, s0, h1, h2, h3⟩ := h
   obtain ⟨vs1, s1, o1, e1, _, e2⟩ := Dg.walk_step hk hw
   rw [h2] at e1
   cases e1
   obtain ⟨rfl, e3⟩ := List.append_inj' e2 rfl
   refine (hc k W o A c vs s hk h3 h1 hn hw hvl hS hoc).mono ?_
   rintro e W' ⟨rfl, h4, h5⟩
   exact ⟨rfl, [bo], ⟨rfl, vs ++ [o], s, h4, hw, hLow W W' h3 fun g hg hgb => h5.block g (by omega) fun hm => hgb (List.mem_singleton.1 hm)⟩, h5, fun g hg => Or.inl hg⟩ }
 refine (walk_any l A n c hl hw hn B0 w hI (by omega) F lb _ hv [bo] ⟨rfl, [], ⟨[], []⟩, h0, rfl, hl0⟩ R hR).mono ?_
 rintro e w' ⟨rfl, k, S, hk, ⟨rfl, vs, s, h1, h2, h3⟩, ho, _⟩
 refine ⟨rfl, f vs, fun hr => ?_, h1, h3, ho.below (by omega) (fun g hg => by rw [List.mem_singleton.1 hg]; exact Nat.le_refl _)⟩
 have := hk hr
 subst this
 rw [hr] at hR
 obtain ⟨s', h4, _⟩ := Dg.valid_walk hR
 rw [hl] at h4
 rw [h2] at h4
 cases h4
 rfl
def underF (l : List Dg.It) (id dv : ByteArray) (vs : List (List ByteArray)) : Bool := (vs.zip l).foldl (fun b p => if p.2.id = id then (decide (dv = Dg.nil8) || Dg.inB p.1 dv) else b) false
theorem underF_snoc (l : List Dg.It) (id dv : ByteArray) (vs : List (List ByteArray)) (o : List ByteArray) (hk : vs.length < l.length) : underF l id dv (vs ++ [o]) = if l[vs.length].id = id then (decide (dv = Dg.nil8) || Dg.inB o dv) else underF l id dv vs := by
 unfold underF
 rw [zip_snoc vs l o hk, List.foldl_append]
 rfl
def underC (l : List Dg.It) (id dv : ByteArray) : Bool := Dg.validC l && underF l id dv (Dg.visits l)
theorem tl_yes {a b : ByteArray} (h : a = b) : (a.toList == b.toList) = true := (Lib.bytes_beq_iff a b).2 h
theorem tl_no {a b : ByteArray} (h : a ≠ b) : (a.toList == b.toList) = false := (Lib.bytes_beq_false_iff a b).2 h
theorem under1_any (l : List Dg.It) (AI : Option Addr) (n c : Nat) (hl : l.length = n) (id dv : ByteArray) (B0 bo b2 b3 b4 : Nat) (k : Nat) (hk : k < l.length) (W : World) (hI : Its W B0 AI l)
  (r2 : W.heap[b2]? = some (.cells #[.slice AI n c] 24 (0, 0))) (r3 : W.heap[b3]? = some (.cells #[.string id] 9 (0, 0))) (r4 : W.heap[b4]? = some (.cells #[.string dv] 9 (0, 0))) (fb : Bool) (ro : W.heap[bo]? = some (.cells #[.bool fb] 4 (0, 0)))
  (o : List ByteArray) (A : Option Addr) (m co : Nat) (hS : Strs W W.heap.size A o) (hm : o.length = m) (hom : m ≤ 1048576) :
  Calls Tryz.prog 114 #[.int .i64 (k : Int), .slice A m co, .pointer (some ⟨b2, 0, none⟩), .pointer (some ⟨b3, 0, none⟩), .pointer (some ⟨b4, 0, none⟩), .pointer (some ⟨bo, 0, none⟩)] W fun e W' => e = .returned (.tuple #[]) ∧ W'.heap[bo]? = some (.cells #[.bool (if l[k].id = id then (decide (dv = Dg.nil8) || Dg.inB o dv) else fb)] 4 (0, 0)) ∧ Off [bo] W W' := by
 obtain ⟨b, off, rfl⟩ := hI.some hk
 obtain ⟨x, hx⟩ : ∃ x, l[k] = x := ⟨_, rfl⟩
 obtain ⟨hbl, p0, p1, p2, p3, p4, p5, p6⟩ := hI.cells hk x hx
 obtain ⟨r, hr⟩ : ∃ r, (if l[k].id = id then (decide (dv = Dg.nil8) || Dg.inB o dv) else fb) = r := ⟨_, rfl⟩
 rw [hr]
 rw [hx] at hr
 have HR := hide hr
 clear hx hr p0 p2 p3 p4 p5 p6
 have hidx : (k : Int) < (n : Int) := by omega
 have hk0 : (0 : Int) ≤ (k : Int) := by omega
 have c2 := iCells0 r2
 have c3 := iCells0 r3
 have c4 := iCells0 r4
 have c5 := iCells0 ro
 have fz := frozen_of_row _ bo 0 _ _ ro
 have HM := hide hm
 clear hm
 have hpe : dv.toList.isEmpty = decide (dv = Dg.nil8) := (emp_iff _).symm
 go_enter func114, ntmps114
 go_upto_region 0 with (fail)
 by_cases hid : x.id = id
 ·have e1 : (x.id.toList == id.toList) = true := tl_yes hid
  have HID := hide hid
  clear hid
  go_quiet (fail)
  by_cases hd : dv = Dg.nil8
  ·have e2 : dv.toList.isEmpty = true := hpe.trans (decide_eq_true hd)
   have HD := hide hd
   clear hd hpe
   go_wp2
   go_end0
   have hrr : true = r := by rw [← HR.out, if_pos HID.out, decide_eq_true HD.out, Bool.true_or]
   subst hrr
   exact ⟨rfl, setCell_row1 (w := W.drewN nq) ro _, (Off.of_below (S := [bo]) (below_drewN (Below.refl W.heap.size W) nq)).setCell (p := ⟨bo, 0, none⟩) (List.mem_singleton.2 rfl) _⟩
  ·have e2 : dv.toList.isEmpty = false := hpe.trans (decide_eq_false hd)
   have HD := hide hd
   clear hd hpe
   obtain ⟨ib, hib⟩ : ∃ b, Dg.inB o dv = b := ⟨_, rfl⟩
   have HIB := hide hib
   clear hib
   go_wp2_with fail
   refine (scontains_s A m co o dv _ HM.out (by omega) (keepS hS (below_drewN (Below.refl W.heap.size W) nq)) ib HIB.out).mono ?_
   rintro e w4 ⟨rfl, hw4⟩
   rw [hw4]
   clear hw4
   go_wp2
   go_end0
   have hrr : ib = r := by rw [← HR.out, if_pos HID.out, decide_eq_false HD.out, Bool.false_or, HIB.out]
   subst hrr
   exact ⟨rfl, setCell_row1 (w := W.drewN nq) ro _, (Off.of_below (S := [bo]) (below_drewN (Below.refl W.heap.size W) nq)).setCell (p := ⟨bo, 0, none⟩) (List.mem_singleton.2 rfl) _⟩
 ·have e1 : (x.id.toList == id.toList) = false := tl_no hid
  have HID := hide hid
  clear hid
  go_quiet (fail)
  go_wp2
  go_end0
  have hrr : fb = r := by rw [← HR.out, if_neg HID.out]
  subst hrr
  exact ⟨rfl, ro, Off.of_below (below_drewN (Below.refl W.heap.size W) nq)⟩
theorem iAlloc4 (w : World) (A B C D : Obj) : ((((w.alloc A).alloc B).alloc C).alloc D).heap[w.heap.size]? = some A ∧ ((((w.alloc A).alloc B).alloc C).alloc D).heap[w.heap.size + 1]? = some B ∧ ((((w.alloc A).alloc B).alloc C).alloc D).heap[w.heap.size + 1 + 1]? = some C ∧ ((((w.alloc A).alloc B).alloc C).alloc D).heap[w.heap.size + 1 + 1 + 1]? = some D ∧ Below w.heap.size w ((((w.alloc A).alloc B).alloc C).alloc D) ∧ ((((w.alloc A).alloc B).alloc C).alloc D).heap.size = w.heap.size + 4 := by
 obtain ⟨r1, r2, r3, hb, hs⟩ := iAlloc3 w A B C
 have x4 := Below.news (Below.refl (((w.alloc A).alloc B).alloc C).heap.size (((w.alloc A).alloc B).alloc C)) D
 have r4 := heap_alloc_new (((w.alloc A).alloc B).alloc C) D
 rw [hs] at r4
 exact ⟨iNext r1 x4, iNext r2 x4, iNext r3 x4, r4, bnext hb x4, by simp⟩
theorem Code.under_of (l : List Dg.It) (A : Option Addr) (n c : Nat) (hl : l.length = n) (hw : ∀ x ∈ l, ItW x) (hn : n ≤ 1048576) (id dv : ByteArray) (w : World) (hI : Its w w.heap.size A l) (U : Bool) (hU : underC l id dv = U) :
  Calls Tryz.prog 93 #[.agg #[.slice A n c], .string id, .string dv] w fun e w' => e = .returned (.bool U) ∧ Below w.heap.size w w' := by
 obtain ⟨r2, r3, r4, ro, hb, hs⟩ := iAlloc4 w (.cells #[.slice A n c] 24) (.cells #[.string id] 9) (.cells #[.string dv] 9) (.cells #[.bool false] 4)
 have hmf : ∀ (fn : Fn) (first cap : Array Value) (w : World), (Instr.makeFunc fn first cap).run Tryz.prog w = .ok (.func fn first cap) w := fun _ _ _ _ => rfl
 have HI := hide hI; have HW := hide hw; have HL := hide hl; have HQ := hide hU
 clear hI hw hl hU
 go_enter func93, ntmps93
 go_wp2_with fail
 obtain ⟨R, hR⟩ : ∃ R, Dg.validC l = R := ⟨_, rfl⟩
 generalize (((w.alloc (.cells #[.slice A n c] 24)).alloc (.cells #[.string id] 9)).alloc (.cells #[.string dv] 9)).alloc (.cells #[.bool false] 4) = W1 at *
 refine (flag_walk l A n c HL.out HW.out hn w.heap.size (w.heap.size + 1 + 1 + 1) W1 (HI.out.below hb) (by omega) (by omega) (fun W => W.heap[w.heap.size]? = some (.cells #[.slice A n c] 24 (0, 0)) ∧ W.heap[w.heap.size + 1]? = some (.cells #[.string id] 9 (0, 0)) ∧ W.heap[w.heap.size + 1 + 1]? = some (.cells #[.string dv] 9 (0, 0)) ∧ Its W w.heap.size A l)
  (fun W W' h hg => ⟨(hg _ (by omega) (by omega)).trans h.1, (hg _ (by omega) (by omega)).trans h.2.1, (hg _ (by omega) (by omega)).trans h.2.2.1, h.2.2.2.same fun g hg' => hg g (by omega) (by omega)⟩) (underF l id dv) (enters_of func114 (by kernel_rfl) rfl)
  (fun k W o A' c' vs s hk hlow ro' hn0 hwt hvl hS hoc => by
   subst hvl
   have h1 := under1_any l A n c HL.out id dv w.heap.size (w.heap.size + 1 + 1 + 1) w.heap.size (w.heap.size + 1) (w.heap.size + 1 + 1) vs.length hk W hlow.2.2.2 hlow.1 hlow.2.1 hlow.2.2.1 _ ro' o A' o.length c' hS rfl (by have := op_short hk hwt; have := HL.out; omega)
   rw [underF_snoc l id dv vs o hk]
   exact h1)
  ro ⟨r2, r3, r4, HI.out.below hb⟩ R hR).mono ?_
 rintro e w2 ⟨rfl, fb, hfb, hro, _, hb2⟩
 have hb' : Below w.heap.size w w2 := hb.trans (hb2.mono (by omega))
 have hcc := iCells0 hro
 have hq := HQ.out
 unfold underC at hq
 rw [hR] at hq
 have HFB := hide hfb
 clear hfb hb hb2 r2 r3 r4 ro hro hR HQ
 cases R with
 | false =>
  have HQ2 := hide (show false = U by rw [← hq, Bool.false_and])
  clear hq
  go_wp2
  go_ret
  exact ⟨ret_bool HQ2.out, hb'⟩
 | true =>
  have HQ2 := hide (show fb = U by rw [← hq, Bool.true_and]; exact HFB.out rfl)
  clear hq
  go_wp2
  go_ret
  exact ⟨ret_bool HQ2.out, hb'⟩
theorem retI {a b : Int} (h : a = b) : Ending.returned (.int .i64 a) = .returned (.int .i64 b) := by rw [h]
def findX (l : List Dg.It) (id : ByteArray) : Int := match l.findIdx? (fun x => decide (x.id = id)) with | some i => (i : Int) | none => -1
theorem findX_at {l : List Dg.It} {id : ByteArray} {k : Nat} (hk : k < l.length) (h : l[k].id = id) (hb : ∀ x ∈ l.take k, x.id ≠ id) : findX l id = (k : Int) := by
 have : l.findIdx? (fun x => decide (x.id = id)) = some k := by
  rw [List.findIdx?_eq_some_iff_getElem]
  refine ⟨hk, by rw [h]; exact decide_eq_true rfl, fun j hj => ?_⟩
  have := hb (l[j]'(by omega)) (List.mem_take_iff_getElem.2 ⟨j, by omega, rfl⟩)
  simpa using this
 unfold findX
 rw [this]
theorem findX_none {l : List Dg.It} {id : ByteArray} (hb : ∀ x ∈ l, x.id ≠ id) : findX l id = -1 := by
 have : l.findIdx? (fun x => decide (x.id = id)) = none := by
  rw [List.findIdx?_eq_none_iff]
  intro x hx
  simpa using hb x hx
 unfold findX
 rw [this]
theorem find1_any (x : Dg.It) (id : ByteArray) (b3 : Nat) (w : World) (r3 : w.heap[b3]? = some (.cells #[.string id] 9 (0, 0))) (R : Bool) (hR : (x.id.toList == id.toList) = R) :
  Calls Tryz.prog 88 #[.agg (Rq4 x), .pointer (some ⟨b3, 0, none⟩)] w fun e w' => e = .returned (.bool R) ∧ Below w.heap.size w w' := by
 have hb0 := nwB w (.cells (Rq4 x) 51)
 have hx0 := heap_alloc_new w (.cells (Rq4 x) 51)
 have c3 := iCells0 (iNext r3 hb0)
 obtain ⟨c0, c1, _⟩ := iCells hx0
 go_enter func88, ntmps88
 go_wp2
 go_ret
 exact ⟨rfl, hb0⟩
theorem Code.findf_any (l : List Dg.It) (A : Option Addr) (n c : Nat) (hl : l.length = n) (hn : n ≤ 1048576) (id : ByteArray) (b3 : Nat) (w : World) (hI : Its w w.heap.size A l) (r3 : w.heap[b3]? = some (.cells #[.string id] 9 (0, 0))) (K0 : Int) (hK0 : findX l id = K0) :
  Calls Tryz.prog 87 #[.slice A n c, .func (.func 88) #[] #[.pointer (some ⟨b3, 0, none⟩)]] w fun e w' => e = .returned (.int .i64 K0) ∧ Below w.heap.size w w' := by
 have HL := hide hl; have HK0 := hide hK0; have HI := hide hI; have HR3 := hide r3
 clear hl hK0 hI r3
 go_enter func87, ntmps87
 go_wp2
 go_loopw [8] (fun i wr => ∃ k : Nat, k ≤ n ∧ i = .int .i64 k ∧ Below w.heap.size w wr ∧ Hid (∀ x ∈ l.take k, x.id ≠ id)) (fun i _ => n - (intOf i).toNat)
 case atStart => exact ⟨0, by omega, rfl, Below.refl _ _, fun x hx => by simp at hx⟩
 case round =>
  obtain ⟨k, hk, rfl, hb, hall⟩ := hrel
  by_cases hlt : k < n
  ·have hkl : k < l.length := by rw [HL.out]; exact hlt
   have hIr := HI.out.below hb
   obtain ⟨b, off, rfl⟩ := hIr.some hkl
   obtain ⟨x, hx⟩ : ∃ x, l[k] = x := ⟨_, rfl⟩
   obtain ⟨hbl, p0, p1, p2, p3, p4, p5, p6⟩ := hIr.cells hkl x hx
   have HX := hide hx
   clear hx hIr
   have hk0 : (0 : Int) ≤ (k : Int) := by omega
   have hkn : (k : Int) < (n : Int) := by omega
   go_wp2_with fail
   clear p0 p1 p2 p3 p4 p5 p6
   obtain ⟨R, hR⟩ : ∃ R, (x.id.toList == id.toList) = R := ⟨_, rfl⟩
   refine (find1_any x id b3 _ (iNext HR3.out hb) R hR).mono ?_
   rintro e w2 ⟨rfl, hb2⟩
   have hb3 := bnext hb hb2
   cases R with
   | true =>
    have HF := hide (show (k : Int) = K0 by rw [← HK0.out]; exact (findX_at hkl (by rw [HX.out]; exact (Lib.bytes_beq_iff _ _).1 hR) hall.out).symm)
    clear hR
    go_wp2
    go_ret
    exact ⟨retI HF.out, hb3⟩
   | false =>
    have hne : x.id ≠ id := (Lib.bytes_beq_false_iff _ _).1 hR
    have HA : Hid (∀ y ∈ l.take (k + 1), y.id ≠ id) := fun y hy => by
     rw [List.take_succ_eq_append_getElem hkl, HX.out] at hy
     rcases List.mem_append.1 hy with h | h
     ·exact hall.out y h
     ·rw [List.mem_singleton.1 h]; exact hne
    clear hR hne
    go_wp2
    go_roundw
    case rel => exact ⟨k + 1, by omega, by go_num, hb3, HA⟩
    case measure => simp [intOf]; omega
  ·obtain rfl : k = n := by omega
   have HF := hide (show (-1 : Int) = K0 by rw [← HK0.out]; exact (findX_none (by have h := hall.out; rw [← HL.out, List.take_length] at h; exact h)).symm)
   go_wp2
   go_ret
   exact ⟨retI HF.out, hb⟩
theorem Code.find_of (l : List Dg.It) (A : Option Addr) (n c : Nat) (hl : l.length = n) (hn : n ≤ 1048576) (id : ByteArray) (w : World) (hI : Its w w.heap.size A l) (K0 : Int) (hK0 : findX l id = K0) :
  Calls Tryz.prog 62 #[.agg #[.slice A n c], .string id] w fun e w' => e = .returned (.int .i64 K0) ∧ Below w.heap.size w w' := by
 obtain ⟨r2, r3, hb, hs⟩ := iAlloc2 w (.cells #[.slice A n c] 24) (.cells #[.string id] 9)
 have hmf : ∀ (fn : Fn) (first cap : Array Value) (w : World), (Instr.makeFunc fn first cap).run Tryz.prog w = .ok (.func fn first cap) w := fun _ _ _ _ => rfl
 have HI := hide hI; have HL := hide hl; have HK0 := hide hK0
 clear hI hl hK0
 have hc2 := iCells0 r2
 go_enter func62, ntmps62
 go_wp2_with fail
 generalize (w.alloc (.cells #[.slice A n c] 24)).alloc (.cells #[.string id] 9) = W1 at *
 refine (Code.findf_any l A n c HL.out hn id (w.heap.size + 1) W1 (HI.out.keep hb) r3 K0 HK0.out).mono ?_
 rintro e w2 ⟨rfl, hb2⟩
 have hb3 := bnext hb hb2
 clear hc2 r2 r3
 go_wp2
 go_ret
 exact ⟨rfl, hb3⟩
theorem setCell_rowN {w : World} {g : Nat} {cs : Array Value} {T : TypeId} (h : w.heap[g]? = some (.cells cs T (0, 0))) (j : Nat) (u : Value) : (w.setCell ⟨g, j, none⟩ u).heap[g]? = some (.cells (cs.setIfInBounds j u) T (0, 0)) := by
 simp only [World.setCell, Array.getElem?_modify, h]
 simp
theorem jC15 {w : World} {g : Nat} {a0 a1 a2 a3 a4 a5 a6 a7 a8 a9 a10 a11 a12 a13 a14 : Value} {T : TypeId} (h : w.heap[g]? = some (.cells #[a0, a1, a2, a3, a4, a5, a6, a7, a8, a9, a10, a11, a12, a13, a14] T (0, 0))) :
  w.cell? ⟨g, 0, none⟩ = some a0 ∧ w.cell? ⟨g, 1, none⟩ = some a1 ∧ w.cell? ⟨g, 2, none⟩ = some a2 ∧ w.cell? ⟨g, 3, none⟩ = some a3 ∧ w.cell? ⟨g, 4, none⟩ = some a4 ∧ w.cell? ⟨g, 5, none⟩ = some a5 ∧ w.cell? ⟨g, 6, none⟩ = some a6 ∧ w.cell? ⟨g, 7, none⟩ = some a7 ∧ w.cell? ⟨g, 8, none⟩ = some a8 ∧ w.cell? ⟨g, 9, none⟩ = some a9 ∧ w.cell? ⟨g, 10, none⟩ = some a10 ∧ w.cell? ⟨g, 11, none⟩ = some a11 ∧ w.cell? ⟨g, 12, none⟩ = some a12 ∧ w.cell? ⟨g, 13, none⟩ = some a13 ∧ w.cell? ⟨g, 14, none⟩ = some a14 := by
 refine ⟨?_, ?_, ?_, ?_, ?_, ?_, ?_, ?_, ?_, ?_, ?_, ?_, ?_, ?_, ?_⟩ <;> (rw [cell_of_row _ _ _ _ _ (0, 0) h]; rfl)
theorem jC17 {w : World} {g : Nat} {a0 a1 a2 a3 a4 a5 a6 a7 a8 a9 a10 a11 a12 a13 a14 a15 a16 : Value} {T : TypeId} (h : w.heap[g]? = some (.cells #[a0, a1, a2, a3, a4, a5, a6, a7, a8, a9, a10, a11, a12, a13, a14, a15, a16] T (0, 0))) :
  w.cell? ⟨g, 0, none⟩ = some a0 ∧ w.cell? ⟨g, 1, none⟩ = some a1 ∧ w.cell? ⟨g, 2, none⟩ = some a2 ∧ w.cell? ⟨g, 3, none⟩ = some a3 ∧ w.cell? ⟨g, 4, none⟩ = some a4 ∧ w.cell? ⟨g, 5, none⟩ = some a5 ∧ w.cell? ⟨g, 6, none⟩ = some a6 ∧ w.cell? ⟨g, 7, none⟩ = some a7 ∧ w.cell? ⟨g, 8, none⟩ = some a8 ∧ w.cell? ⟨g, 9, none⟩ = some a9 ∧ w.cell? ⟨g, 10, none⟩ = some a10 ∧ w.cell? ⟨g, 11, none⟩ = some a11 ∧ w.cell? ⟨g, 12, none⟩ = some a12 ∧ w.cell? ⟨g, 13, none⟩ = some a13 ∧ w.cell? ⟨g, 14, none⟩ = some a14 ∧ w.cell? ⟨g, 15, none⟩ = some a15 ∧ w.cell? ⟨g, 16, none⟩ = some a16 := by
 refine ⟨?_, ?_, ?_, ?_, ?_, ?_, ?_, ?_, ?_, ?_, ?_, ?_, ?_, ?_, ?_, ?_, ?_⟩ <;> (rw [cell_of_row _ _ _ _ _ (0, 0) h]; rfl)
theorem frzJ {w : World} {g : Nat} {cs : Array Value} {T : TypeId} (h : w.heap[g]? = some (.cells cs T (0, 0))) : ∀ j, w.frozen? ⟨g, j, none⟩ = false := fun j => frozen_of_row w g j cs T h
def setC7 (X : World) (g : Nat) (v0 v1 v2 v3 v4 v5 v6 : Value) : World := (((((((X.setCell ⟨g, 0, none⟩ v0).setCell ⟨g, 1, none⟩ v1).setCell ⟨g, 2, none⟩ v2).setCell ⟨g, 3, none⟩ v3).setCell ⟨g, 4, none⟩ v4).setCell ⟨g, 5, none⟩ v5).setCell ⟨g, 6, none⟩ v6)
theorem setC7_row {X : World} {g : Nat} {a0 a1 a2 a3 a4 a5 a6 : Value} {T : TypeId} (h : X.heap[g]? = some (.cells #[a0, a1, a2, a3, a4, a5, a6] T (0, 0))) (v0 v1 v2 v3 v4 v5 v6 : Value) : (setC7 X g v0 v1 v2 v3 v4 v5 v6).heap[g]? = some (.cells #[v0, v1, v2, v3, v4, v5, v6] T (0, 0)) := by
 have h0 := setCell_rowN h 0 v0
 simp only [List.setIfInBounds_toArray, List.set_cons_zero] at h0
 have h1 := setCell_rowN h0 1 v1
 simp only [List.setIfInBounds_toArray, List.set_cons_zero, List.set_cons_succ] at h1
 have h2 := setCell_rowN h1 2 v2
 simp only [List.setIfInBounds_toArray, List.set_cons_zero, List.set_cons_succ] at h2
 have h3 := setCell_rowN h2 3 v3
 simp only [List.setIfInBounds_toArray, List.set_cons_zero, List.set_cons_succ] at h3
 have h4 := setCell_rowN h3 4 v4
 simp only [List.setIfInBounds_toArray, List.set_cons_zero, List.set_cons_succ] at h4
 have h5 := setCell_rowN h4 5 v5
 simp only [List.setIfInBounds_toArray, List.set_cons_zero, List.set_cons_succ] at h5
 have h6 := setCell_rowN h5 6 v6
 simp only [List.setIfInBounds_toArray, List.set_cons_zero, List.set_cons_succ] at h6
 exact h6
theorem setC7_below {B : Nat} {w X : World} {g : Nat} (h : Below B w X) (hg : B ≤ g) (v0 v1 v2 v3 v4 v5 v6 : Value) : Below B w (setC7 X g v0 v1 v2 v3 v4 v5 v6) :=
 (((((((h.setCell hg v0).setCell hg v1).setCell hg v2).setCell hg v3).setCell hg v4).setCell hg v5).setCell hg v6)
theorem results_c8 {fn : Func} {p u : Tmp} {ty : TypeId} (h : fn.results = #[.cell p ty, .tmp u]) (tmps : Array Value) (w : World) (g : Nat) (t : TypeId) (cs : Array Value) (fr : Nat × Nat) (fs : Array Field)
  (hp : tmps.getD p undef = .pointer (some ⟨g, 0, none⟩)) (hg : w.heap[g]? = some (.cells cs t fr))
  (hu : Tryz.prog.underlying ty = some (.struct fs)) (hi : (Tryz.prog.info? ty).map (·.size) = some cs.size) :
  (results fn tmps).run Tryz.prog w = .ok (.tuple #[.agg cs, tmps.getD u undef]) w := by
 rw [results_cell_tmp h, hp]
 simp only [asAddr, Sem.run_pure, Result.andThen_ok]
 rw [run_loadVar_row w g t ty cs fr (.struct fs) hg hu rfl hi]
 rfl
structure PtW (p : Dg.Pt) : Prop where
 k0 : -9223372036854775808 ≤ p.kind
 k1 : p.kind ≤ 9223372036854775807
 l0 : -9223372036854775808 ≤ p.lang
 l1 : p.lang ≤ 9223372036854775807
 it : ItW p.item
 iz : p.id.size ≤ 9223372036854775807
 pz : p.parent.size ≤ 9223372036854775807
 az : p.after.size ≤ 9223372036854775807
 nz : p.number.size ≤ 9223372036854775807
theorem idxI_find (l : List Dg.It) (d : ByteArray) : findX l d = match Dg.idxI l d with | some i => (i : Int) | none => -1 := rfl
theorem item_of (l : List Dg.It) (A : Option Addr) (n c : Nat) (hl : l.length = n) (hn : n ≤ 1048576) (p : Dg.Pt) (ix : Int) (d : ByteArray) (w : World) (hI : Its w w.heap.size A l) (x : Dg.It) (hx : Dg.itemA l d = x) :
  Calls Tryz.prog 69 #[.agg (Rq5 A n c p ix), .string d] w fun e w' => e = .returned (.agg (Rq4 x)) ∧ Below w.heap.size w w' := by
 obtain ⟨r2, r3, hb, hs⟩ := iAlloc2 w (.cells (Rq5 A n c p ix) 143) (.cells Rq1 51)
 have HI := hide hI; have HL := hide hl; have HX := hide hx
 clear hI hl hx
 have c0 := (jC17 r2).1
 go_enter func69, ntmps69
 go_wp2_with fail
 generalize (w.alloc (.cells (Rq5 A n c p ix) 143)).alloc (.cells Rq1 51) = W1 at *
 obtain ⟨K0, hK0⟩ : ∃ K, findX l d = K := ⟨_, rfl⟩
 refine (Code.find_of l A n c HL.out hn d W1 (HI.out.keep hb) K0 hK0).mono ?_
 rintro e w2 ⟨rfl, hb2⟩
 have hI2 := hide ((HI.out.keep hb).keep hb2)
 have r22 := iNext r2 hb2
 have r32 := iNext r3 hb2
 have hb3 := bnext hb hb2
 clear c0 r2 r3 hb2 hb
 have c0 := (jC17 r22).1
 obtain ⟨z0, z1, z2, z3, z4, z5, z6⟩ := iCells r32
 have zf := frzJ r32
 rw [idxI_find] at hK0
 cases hi : Dg.idxI l d with
 | none =>
  rw [hi] at hK0
  obtain rfl : (-1 : Int) = K0 := hK0
  have HE := hide (show Dg.zeroI = x by rw [← HX.out]; unfold Dg.itemA; rw [hi])
  clear hi
  go_wp2
  have hr := setC7_row r32 (.int .i64 0) (.string ⟨#[]⟩) (.string ⟨#[]⟩) (.string ⟨#[]⟩) (.string ⟨#[]⟩) (.string ⟨#[]⟩) (.bool false)
  refine bodyPost_ret (results_cell_row (P := Tryz.prog) results69 _ _ (w.heap.size + 1) 51 (Rq1 : Array Value) (0, 0) _ rfl hr underlying51 rfl (by kernel_rfl)) rfl ⟨?_, setC7_below hb3 (by omega) _ _ _ _ _ _ _⟩
  rw [← HE.out]
  rfl
 | some i =>
  rw [hi] at hK0
  obtain rfl : (i : Int) = K0 := hK0
  have hil : i < l.length := by obtain ⟨h, _⟩ := Dg.idxI_some hi; exact h
  obtain ⟨b, off, hA⟩ := hI2.out.some hil
  subst hA
  have hxi : l[i] = x := by rw [← HX.out]; unfold Dg.itemA; rw [hi]; simp [List.getD_eq_getElem?_getD, hil]
  obtain ⟨hbl, p0, p1, p2, p3, p4, p5, p6⟩ := hI2.out.cells hil x hxi
  clear hxi hi
  have hin : i < n := by rw [← HL.out]; exact hil
  have h0 : (0 : Int) ≤ (i : Int) := by omega
  have h1 : (i : Int) < (n : Int) := by omega
  clear hil
  go_wp2
  have hr := setC7_row r32 (.int .i64 x.kind) (.string x.id) (.string x.parent) (.string x.number) (.string x.north) (.string x.south) (.bool x.gone)
  refine bodyPost_ret (results_cell_row (P := Tryz.prog) results69 _ _ (w.heap.size + 1) 51 (Rq4 x : Array Value) (0, 0) _ rfl hr underlying51 rfl (by kernel_rfl)) rfl ⟨rfl, setC7_below hb3 (by omega) _ _ _ _ _ _ _⟩
theorem range_of {w : World} {g : Nat} {arr : Array Value} {T : TypeId} {fr : Nat × Nat} (h : w.heap[g]? = some (.cells arr T fr)) (off : Nat) (cs : List Value) (hcs : (arr.toList.drop off).take cs.length = cs) : w.rangeAt g off cs := fun j v hj => by
 rw [cell_of_row _ _ _ _ _ fr h, ← Array.getElem?_toList]
 rw [← hcs, List.getElem?_take] at hj
 split at hj
 ·rw [List.getElem?_drop] at hj
  exact hj
 ·cases hj
theorem setRow_alloc (W : World) (old cells : Array Value) (T : TypeId) : (W.alloc (.cells old T)).setRow W.heap.size cells = W.alloc (.cells cells T) := by
 simp only [World.setRow, World.alloc]
 congr 1
 apply Array.ext_getElem?
 intro i
 rw [Array.getElem?_modify, Array.getElem?_push, Array.getElem?_push]
 by_cases h : i = W.heap.size
 ·subst h; simp
 ·rw [if_neg (fun e => h e.symm), if_neg h, if_neg h]
theorem store_new {ty T : TypeId} (W : World) (old cells : Array Value) (hi : (Tryz.prog.info? ty).map (·.size) = some cells.size) (hold : old.size = cells.size) (h1 : cells.all (·.oneCell') = true) :
  (Instr.storeAt ty (.pointer (some ⟨W.heap.size, 0, none⟩)) (.agg cells)).run Tryz.prog (W.alloc (.cells old T)) = .ok () (W.alloc (.cells cells T)) := by
 simp only [Instr.storeAt, Instr.sureAddr, Sem.run_bind, Sem.run_pure, Result.andThen_ok, run_storeVar_row (P := Tryz.prog) (W.alloc (.cells old T)) W.heap.size T ty old cells (heap_alloc_new W _) hi hold h1, setRow_alloc]
theorem quiet_load_mid {P : Program} {C : World → Prop} {op : Oper} {a : Act} {K : Act → Prop} (ty : TypeId) (x : Operand) (ho : op.op = .load ty x) (b o : Nat) (hx : a.eval x = .pointer (some ⟨b, o, none⟩)) (cs : List Value) (d : TypeDesc) (hc : ∀ w, C w → w.rangeAt b o cs)
  (hu : P.underlying ty = some d) (hd : d.isRow = true) (hi : (P.info? ty).map (·.size) = some cs.length) (h : K (a.put op.dst (.agg cs.toArray))) : op.quiet P a C K :=
 ⟨_, fun w hw => by
  unfold Oper.quietAt execOp
  simp only [ho, hx, run_loadAt_mid (P := P) w b o ty cs d (hc w hw) hu hd hi, Sem.run_bind, Sem.run_pure, Result.andThen_ok, Oper.quietUpon]
  refine ⟨?_, ?_⟩ <;> first | trivial | rfl, h⟩
theorem foldD_one {α β : Type} (P : α → Prop) [DecidablePred P] (g : α → β) : ∀ (zs : List α) (b : β), (∀ z ∈ zs, ¬ P z) → zs.foldl (fun b z => if P z then g z else b) b = b
 | [], _, _ => rfl
 | z :: zs, b, h => by
  rw [List.foldl_cons, if_neg (h z (List.mem_cons_self ..))]
  exact foldD_one P g zs b (fun y hy => h y (List.mem_cons_of_mem _ hy))
theorem foldD_at {α β : Type} (P : α → Prop) [DecidablePred P] (g : α → β) (zs : List α) (b : β) (k : Nat) (hk : k < zs.length) (h : P zs[k]) (hn : ∀ (j : Nat) (hj : j < zs.length), k < j → ¬ P zs[j]) : zs.foldl (fun b z => if P z then g z else b) b = g zs[k] := by
 have e : zs = zs.take k ++ zs[k] :: zs.drop (k + 1) := by
  rw [List.getElem_cons_drop, List.take_append_drop]
 conv => lhs; rw [e]
 rw [List.foldl_append, List.foldl_cons, if_pos h]
 refine foldD_one P g _ _ fun z hz => ?_
 obtain ⟨j, hj, rfl⟩ := List.mem_iff_getElem.1 hz
 rw [List.length_drop] at hj
 rw [List.getElem_drop]
 exact hn _ (by omega) (by omega)
theorem underD_at {l : List Dg.It} (hv : Dg.validC l = true) {k : Nat} (hk : k < l.length) (dv : ByteArray) : ∃ o, (Dg.visits l)[k]? = some o ∧ underC l l[k].id dv = (decide (dv = Dg.nil8) || Dg.inB o dv) := by
 obtain ⟨s, hw, _⟩ := Dg.valid_walk hv
 have hl := Dg.walk_len (Nat.le_refl _) hw
 have hkv : k < (Dg.visits l).length := by rw [hl]; exact hk
 refine ⟨(Dg.visits l)[k], List.getElem?_eq_getElem hkv, ?_⟩
 unfold underC underF
 rw [hv, Bool.true_and]
 have hz : ((Dg.visits l).zip l).length = l.length := by rw [List.length_zip, hl, Nat.min_self]
 have := foldD_at (fun p : List ByteArray × Dg.It => p.2.id = l[k].id) (fun p => (decide (dv = Dg.nil8) || Dg.inB p.1 dv)) ((Dg.visits l).zip l) false k (by rw [hz]; exact hk) (by rw [List.getElem_zip]) (fun j hj hkj => by
  rw [List.getElem_zip]
  rw [hz] at hj
  exact fun e => Dg.ids_ne (Nat.le_refl _) hw hkj hj e.symm)
 rw [List.getElem_zip] at this
 exact this
theorem below_len {l : List Dg.It} (hv : Dg.validC l = true) (d : ByteArray) : (belowC l d).length = Dg.belowN l d := by
 unfold belowC
 rw [if_pos hv]
 unfold belowF Dg.belowN
 rw [List.length_map, ← List.countP_eq_length_filter]
 have h1 : ((Dg.visits l).zip l).map Prod.fst = Dg.visits l := List.map_fst_zip (Nat.le_of_eq (visits_le l hv))
 conv => rhs; rw [← h1]
 rw [List.countP_map]
 rfl
theorem under_eq {l : List Dg.It} (hv : Dg.validC l = true) (d dv : ByteArray) : underC l d dv = Dg.underN l d dv := by
 unfold Dg.underN
 cases hi : Dg.idxI l d with
 | none =>
  unfold underC underF
  rw [hv, Bool.true_and]
  refine foldD_one (fun p : List ByteArray × Dg.It => p.2.id = d) (fun p => (decide (dv = Dg.nil8) || Dg.inB p.1 dv)) ((Dg.visits l).zip l) false fun z hz => ?_
  exact Dg.idxI_none hi z.2 (List.of_mem_zip hz).2
 | some i =>
  obtain ⟨hil, e⟩ := Dg.idxI_some hi
  obtain ⟨ov, ho, hu⟩ := underD_at hv hil dv
  rw [e] at hu
  rw [hu]
  simp only [List.getD_eq_getElem?_getD, ho, Option.getD_some]
theorem belowN_le {l : List Dg.It} (hv : Dg.validC l = true) (d : ByteArray) : Dg.belowN l d ≤ l.length := by
 rw [← visits_le l hv]
 exact List.countP_le_length
theorem size_of (l : List Dg.It) (A : Option Addr) (n c : Nat) (hl : l.length = n) (hn : n ≤ 1048576) (p : Dg.Pt) (ix : Int) (hw : ∀ x ∈ l, ItW x) (hv : Dg.validC l = true) (d : ByteArray) (w : World) (hI : Its w w.heap.size A l) (K : Nat) (hK : Dg.belowN l d = K) :
  Calls Tryz.prog 94 #[.agg (Rq5 A n c p ix), .string d] w fun e w' => e = .returned (.int .i64 ((1 + K : Nat) : Int)) ∧ Below w.heap.size w w' := by
 have r2 := heap_alloc_new w (.cells (Rq5 A n c p ix) 143)
 have hb := nwB w (.cells (Rq5 A n c p ix) 143)
 have HI := hide hI; have HL := hide hl; have HW := hide hw; have HV := hide hv
 have HK := hide (show (belowC l d).length = K by rw [below_len hv]; exact hK)
 have hKn : K ≤ 1048576 := by rw [← hK]; exact Nat.le_trans (belowN_le hv d) (by omega)
 clear hI hl hw hv hK
 have c0 := (jC17 r2).1
 go_enter func94, ntmps94
 go_wp2_with fail
 generalize w.alloc (.cells (Rq5 A n c p ix) 143) = W1 at *
 refine (Code.below_of l A n c HL.out HW.out hn d W1 (HI.out.keep hb) (belowC l d) rfl).mono ?_
 rintro e w2 ⟨⟨A', c', rfl, _, _⟩, hb2⟩
 rw [HK.out]
 have hb3 := bnext hb hb2
 clear c0 r2 hb2 hb
 have hK0 : (K : Int) ≤ 1048576 := by omega
 go_wp2
 go_ret
 exact ⟨by rw [Int.natCast_add]; rfl, hb3⟩
structure ChS (b1 b3 : Nat) (A : Option Addr) (n c : Nat) (l : List Dg.It) (p : Dg.Pt) (ix : Int) (X : World) : Prop where
 r1 : X.heap[b1]? = some (.cells (Rq5 A n c p ix) 143 (0, 0))
 r3 : X.heap[b3]? = some (.cells (Rq0 p) 53 (0, 0))
 its : Its X X.heap.size A l
theorem fieldI0 (v : Dg.It) : ∀ w, (Instr.field 51 (.agg (Rq4 v)) 0).run Tryz.prog w = .ok (.int .i64 v.kind) w := fun w => by kernel_rfl
theorem fieldI2 (v : Dg.It) : ∀ w, (Instr.field 51 (.agg (Rq4 v)) 2).run Tryz.prog w = .ok (.string v.parent) w := fun w => by kernel_rfl
attribute [-go_sem] Instr.storeAt in
theorem exists_pf (l : List Dg.It) (A : Option Addr) (n c : Nat) (hl : l.length = n) (hn : n ≤ 1048576) (p : Dg.Pt) (ix : Int) (w : World) (hI : Its w w.heap.size A l) (x y : Dg.It) (hx : Dg.itemA l p.parent = x) (hy : Dg.itemA l p.after = y) (hP : p.parent.toList.isEmpty = false) (hK : (x.kind == 1) = false) :
  Calls Tryz.prog 89 #[.agg (Rq5 A n c p ix)] w fun e w' => e = .returned (.bool false) ∧ Below w.heap.size w w' := by
 have r1 := heap_alloc_new w (.cells (Rq5 A n c p ix) 143)
 have hb1 := nwB w (.cells (Rq5 A n c p ix) 143)
 have HL := hide hl; have HX := hide hx; have HY := hide hy
 have HI1 := hide (hI.keep hb1)
 clear hI hl hx hy
 go_enter func89, ntmps89
 go_upto_region 1 with (fail)
 generalize w.alloc (.cells (Rq5 A n c p ix) 143) = w1 at *
 have hRG := hide (range_of r1 1 (Rq0 p) rfl)
 have hst := store_new (ty := 53) (T := 53) w1 Rq2 (Rq0 p) (by kernel_rfl) rfl (all_oneCell_toArray (ptL.one p))
 go_upto_region 2 with (first | (with_reducible refine wpList_load_mid rfl 53 (.tmp 4) rfl w.heap.size 1 rfl _ _ hRG.out underlying53 rfl (by kernel_rfl) ?_))
 clear hRG hst
 have r3 := heap_alloc_new w1 (.cells (Rq0 p) 53)
 have hb2 := nwB w1 (.cells (Rq0 p) 53)
 have hS1 : ChS w.heap.size w1.heap.size A n c l p ix (w1.alloc (.cells (Rq0 p) 53)) := ⟨iNext r1 hb2, r3, HI1.out.keep hb2⟩
 replace hb1 := bnext hb1 hb2
 clear r1 r3 HI1 hb2
 generalize w1.alloc (.cells (Rq0 p) 53) = w2 at *
 have HR1 := hide (fun (d : Nat) (os : Array Obj) => range_of ((below_regrown w2 d os).block _ (lt_of_block hS1.r1) |>.trans hS1.r1) 0 (Rq5 A n c p ix) rfl)
 have k2 := fun (d : Nat) (os : Array Obj) => (jC15 ((below_regrown w2 d os).block _ (lt_of_block hS1.r3) |>.trans hS1.r3)).2.2.1
 have k3 := fun (d : Nat) (os : Array Obj) => (jC15 ((below_regrown w2 d os).block _ (lt_of_block hS1.r3) |>.trans hS1.r3)).2.2.2.1
 have q1 := fun (d : Nat) (os : Array Obj) => Calls.regrown_of (item_of l A n c HL.out hn p ix p.parent (grow (redrawn w2 d) os) (hS1.its.keep (below_regrown w2 d os)) x HX.out)
 have q2 := fun (d : Nat) (os : Array Obj) => Calls.regrown_of (item_of l A n c HL.out hn p ix p.after (grow (redrawn w2 d) os) (hS1.its.keep (below_regrown w2 d os)) y HY.out)
 have Q1 := hide q1; have Q2 := hide q2; clear q1 q2 hS1
 have fx0 := fieldI0 x; have fy0 := fieldI0 y; have fy2 := fieldI2 y
 refine wp_region_quiet_below (by kernel_rfl) (by decide +kernel) ?_
 repeat (first | go_big_quiet_step (fail) | quiet_step (fail))
 (refine wpQuiet_step (fun K hK => ?_); rw [if_pos (by rfl)]; refine quiet_load_mid 143 (.tmp 1) rfl w.heap.size 0 rfl _ _ (fun _ ⟨q, e⟩ => e ▸ HR1.out q.d q.os) underlying143 rfl (by kernel_rfl) ?_; refine hK _ ?_; clear hK K)
 repeat (first | go_big_quiet_step (fail) | quiet_step (fail))
 (first | go_big_quiet_step (exact Q1.out _ _) | quiet_step (exact Q1.out _ _))
 repeat (first | go_big_quiet_step (fail) | quiet_step (fail))
 refine wpQuiet_nil ?_
 intro _ hw2
 obtain ⟨⟨dq, osq⟩, hw3⟩ := hw2
 subst hw3
 go_wp2
 go_ret
 exact ⟨rfl, bnext hb1 (below_regrown w2 dq osq)⟩
attribute [-go_sem] Instr.storeAt in
theorem exists_pt (l : List Dg.It) (A : Option Addr) (n c : Nat) (hl : l.length = n) (hn : n ≤ 1048576) (p : Dg.Pt) (ix : Int) (w : World) (hI : Its w w.heap.size A l) (x y : Dg.It) (hx : Dg.itemA l p.parent = x) (hy : Dg.itemA l p.after = y) (hP : p.parent.toList.isEmpty = false) (hK : (x.kind == 1) = true) (hA : p.after.toList.isEmpty = true) :
  Calls Tryz.prog 89 #[.agg (Rq5 A n c p ix)] w fun e w' => e = .returned (.bool true) ∧ Below w.heap.size w w' := by
 have r1 := heap_alloc_new w (.cells (Rq5 A n c p ix) 143)
 have hb1 := nwB w (.cells (Rq5 A n c p ix) 143)
 have HL := hide hl; have HX := hide hx; have HY := hide hy
 have HI1 := hide (hI.keep hb1)
 clear hI hl hx hy
 go_enter func89, ntmps89
 go_upto_region 1 with (fail)
 generalize w.alloc (.cells (Rq5 A n c p ix) 143) = w1 at *
 have hRG := hide (range_of r1 1 (Rq0 p) rfl)
 have hst := store_new (ty := 53) (T := 53) w1 Rq2 (Rq0 p) (by kernel_rfl) rfl (all_oneCell_toArray (ptL.one p))
 go_upto_region 2 with (first | (with_reducible refine wpList_load_mid rfl 53 (.tmp 4) rfl w.heap.size 1 rfl _ _ hRG.out underlying53 rfl (by kernel_rfl) ?_))
 clear hRG hst
 have r3 := heap_alloc_new w1 (.cells (Rq0 p) 53)
 have hb2 := nwB w1 (.cells (Rq0 p) 53)
 have hS1 : ChS w.heap.size w1.heap.size A n c l p ix (w1.alloc (.cells (Rq0 p) 53)) := ⟨iNext r1 hb2, r3, HI1.out.keep hb2⟩
 replace hb1 := bnext hb1 hb2
 clear r1 r3 HI1 hb2
 generalize w1.alloc (.cells (Rq0 p) 53) = w2 at *
 have HR1 := hide (fun (d : Nat) (os : Array Obj) => range_of ((below_regrown w2 d os).block _ (lt_of_block hS1.r1) |>.trans hS1.r1) 0 (Rq5 A n c p ix) rfl)
 have k2 := fun (d : Nat) (os : Array Obj) => (jC15 ((below_regrown w2 d os).block _ (lt_of_block hS1.r3) |>.trans hS1.r3)).2.2.1
 have k3 := fun (d : Nat) (os : Array Obj) => (jC15 ((below_regrown w2 d os).block _ (lt_of_block hS1.r3) |>.trans hS1.r3)).2.2.2.1
 have q1 := fun (d : Nat) (os : Array Obj) => Calls.regrown_of (item_of l A n c HL.out hn p ix p.parent (grow (redrawn w2 d) os) (hS1.its.keep (below_regrown w2 d os)) x HX.out)
 have q2 := fun (d : Nat) (os : Array Obj) => Calls.regrown_of (item_of l A n c HL.out hn p ix p.after (grow (redrawn w2 d) os) (hS1.its.keep (below_regrown w2 d os)) y HY.out)
 have Q1 := hide q1; have Q2 := hide q2; clear q1 q2 hS1
 have fx0 := fieldI0 x; have fy0 := fieldI0 y; have fy2 := fieldI2 y
 refine wp_region_quiet_below (by kernel_rfl) (by decide +kernel) ?_
 repeat (first | go_big_quiet_step (fail) | quiet_step (fail))
 (refine wpQuiet_step (fun K hK => ?_); rw [if_pos (by rfl)]; refine quiet_load_mid 143 (.tmp 1) rfl w.heap.size 0 rfl _ _ (fun _ ⟨q, e⟩ => e ▸ HR1.out q.d q.os) underlying143 rfl (by kernel_rfl) ?_; refine hK _ ?_; clear hK K)
 repeat (first | go_big_quiet_step (fail) | quiet_step (fail))
 (first | go_big_quiet_step (exact Q1.out _ _) | quiet_step (exact Q1.out _ _))
 repeat (first | go_big_quiet_step (fail) | quiet_step (fail))
 refine wpQuiet_nil ?_
 intro _ hw2
 obtain ⟨⟨dq, osq⟩, hw3⟩ := hw2
 subst hw3
 go_wp2
 go_ret
 exact ⟨rfl, bnext hb1 (below_regrown w2 dq osq)⟩
attribute [-go_sem] Instr.storeAt in
theorem exists_ptf (l : List Dg.It) (A : Option Addr) (n c : Nat) (hl : l.length = n) (hn : n ≤ 1048576) (p : Dg.Pt) (ix : Int) (w : World) (hI : Its w w.heap.size A l) (x y : Dg.It) (hx : Dg.itemA l p.parent = x) (hy : Dg.itemA l p.after = y) (hP : p.parent.toList.isEmpty = false) (hK : (x.kind == 1) = true) (hA : p.after.toList.isEmpty = false) (hK0 : (y.kind == 0) = true) :
  Calls Tryz.prog 89 #[.agg (Rq5 A n c p ix)] w fun e w' => e = .returned (.bool false) ∧ Below w.heap.size w w' := by
 have r1 := heap_alloc_new w (.cells (Rq5 A n c p ix) 143)
 have hb1 := nwB w (.cells (Rq5 A n c p ix) 143)
 have HL := hide hl; have HX := hide hx; have HY := hide hy
 have HI1 := hide (hI.keep hb1)
 clear hI hl hx hy
 go_enter func89, ntmps89
 go_upto_region 1 with (fail)
 generalize w.alloc (.cells (Rq5 A n c p ix) 143) = w1 at *
 have hRG := hide (range_of r1 1 (Rq0 p) rfl)
 have hst := store_new (ty := 53) (T := 53) w1 Rq2 (Rq0 p) (by kernel_rfl) rfl (all_oneCell_toArray (ptL.one p))
 go_upto_region 2 with (first | (with_reducible refine wpList_load_mid rfl 53 (.tmp 4) rfl w.heap.size 1 rfl _ _ hRG.out underlying53 rfl (by kernel_rfl) ?_))
 clear hRG hst
 have r3 := heap_alloc_new w1 (.cells (Rq0 p) 53)
 have hb2 := nwB w1 (.cells (Rq0 p) 53)
 have hS1 : ChS w.heap.size w1.heap.size A n c l p ix (w1.alloc (.cells (Rq0 p) 53)) := ⟨iNext r1 hb2, r3, HI1.out.keep hb2⟩
 replace hb1 := bnext hb1 hb2
 clear r1 r3 HI1 hb2
 generalize w1.alloc (.cells (Rq0 p) 53) = w2 at *
 have HR1 := hide (fun (d : Nat) (os : Array Obj) => range_of ((below_regrown w2 d os).block _ (lt_of_block hS1.r1) |>.trans hS1.r1) 0 (Rq5 A n c p ix) rfl)
 have k2 := fun (d : Nat) (os : Array Obj) => (jC15 ((below_regrown w2 d os).block _ (lt_of_block hS1.r3) |>.trans hS1.r3)).2.2.1
 have k3 := fun (d : Nat) (os : Array Obj) => (jC15 ((below_regrown w2 d os).block _ (lt_of_block hS1.r3) |>.trans hS1.r3)).2.2.2.1
 have q1 := fun (d : Nat) (os : Array Obj) => Calls.regrown_of (item_of l A n c HL.out hn p ix p.parent (grow (redrawn w2 d) os) (hS1.its.keep (below_regrown w2 d os)) x HX.out)
 have q2 := fun (d : Nat) (os : Array Obj) => Calls.regrown_of (item_of l A n c HL.out hn p ix p.after (grow (redrawn w2 d) os) (hS1.its.keep (below_regrown w2 d os)) y HY.out)
 have Q1 := hide q1; have Q2 := hide q2; clear q1 q2 hS1
 have fx0 := fieldI0 x; have fy0 := fieldI0 y; have fy2 := fieldI2 y
 have hn0 : (y.kind != 0) = false := by rw [bne, hK0]; rfl
 refine wp_region_quiet_below (by kernel_rfl) (by decide +kernel) ?_
 repeat (first | go_big_quiet_step (fail) | quiet_step (fail))
 (refine wpQuiet_step (fun K hK => ?_); rw [if_pos (by rfl)]; refine quiet_load_mid 143 (.tmp 1) rfl w.heap.size 0 rfl _ _ (fun _ ⟨q, e⟩ => e ▸ HR1.out q.d q.os) underlying143 rfl (by kernel_rfl) ?_; refine hK _ ?_; clear hK K)
 repeat (first | go_big_quiet_step (fail) | quiet_step (fail))
 (first | go_big_quiet_step (exact Q1.out _ _) | quiet_step (exact Q1.out _ _))
 repeat (first | go_big_quiet_step (fail) | quiet_step (fail))
 (refine wpQuiet_step (fun K hK => ?_); rw [if_pos (by rfl)]; refine quiet_load_mid 143 (.tmp 1) rfl w.heap.size 0 rfl _ _ (fun _ ⟨q, e⟩ => e ▸ HR1.out q.d q.os) underlying143 rfl (by kernel_rfl) ?_; refine hK _ ?_; clear hK K)
 repeat (first | go_big_quiet_step (fail) | quiet_step (fail))
 (first | go_big_quiet_step (exact Q2.out _ _) | quiet_step (exact Q2.out _ _))
 repeat (first | go_big_quiet_step (fail) | quiet_step (fail))
 refine wpQuiet_nil ?_
 intro _ hw2
 obtain ⟨⟨dq, osq⟩, hw3⟩ := hw2
 subst hw3
 go_wp2
 go_ret
 exact ⟨rfl, bnext hb1 (below_regrown w2 dq osq)⟩
attribute [-go_sem] Instr.storeAt in
theorem exists_ptff (l : List Dg.It) (A : Option Addr) (n c : Nat) (hl : l.length = n) (hn : n ≤ 1048576) (p : Dg.Pt) (ix : Int) (w : World) (hI : Its w w.heap.size A l) (x y : Dg.It) (hx : Dg.itemA l p.parent = x) (hy : Dg.itemA l p.after = y) (hP : p.parent.toList.isEmpty = false) (hK : (x.kind == 1) = true) (hA : p.after.toList.isEmpty = false) (hK0 : (y.kind == 0) = false) :
  Calls Tryz.prog 89 #[.agg (Rq5 A n c p ix)] w fun e w' => e = .returned (.bool (y.parent.toList == p.parent.toList)) ∧ Below w.heap.size w w' := by
 have r1 := heap_alloc_new w (.cells (Rq5 A n c p ix) 143)
 have hb1 := nwB w (.cells (Rq5 A n c p ix) 143)
 have HL := hide hl; have HX := hide hx; have HY := hide hy
 have HI1 := hide (hI.keep hb1)
 clear hI hl hx hy
 go_enter func89, ntmps89
 go_upto_region 1 with (fail)
 generalize w.alloc (.cells (Rq5 A n c p ix) 143) = w1 at *
 have hRG := hide (range_of r1 1 (Rq0 p) rfl)
 have hst := store_new (ty := 53) (T := 53) w1 Rq2 (Rq0 p) (by kernel_rfl) rfl (all_oneCell_toArray (ptL.one p))
 go_upto_region 2 with (first | (with_reducible refine wpList_load_mid rfl 53 (.tmp 4) rfl w.heap.size 1 rfl _ _ hRG.out underlying53 rfl (by kernel_rfl) ?_))
 clear hRG hst
 have r3 := heap_alloc_new w1 (.cells (Rq0 p) 53)
 have hb2 := nwB w1 (.cells (Rq0 p) 53)
 have hS1 : ChS w.heap.size w1.heap.size A n c l p ix (w1.alloc (.cells (Rq0 p) 53)) := ⟨iNext r1 hb2, r3, HI1.out.keep hb2⟩
 replace hb1 := bnext hb1 hb2
 clear r1 r3 HI1 hb2
 generalize w1.alloc (.cells (Rq0 p) 53) = w2 at *
 have HR1 := hide (fun (d : Nat) (os : Array Obj) => range_of ((below_regrown w2 d os).block _ (lt_of_block hS1.r1) |>.trans hS1.r1) 0 (Rq5 A n c p ix) rfl)
 have k2 := fun (d : Nat) (os : Array Obj) => (jC15 ((below_regrown w2 d os).block _ (lt_of_block hS1.r3) |>.trans hS1.r3)).2.2.1
 have k3 := fun (d : Nat) (os : Array Obj) => (jC15 ((below_regrown w2 d os).block _ (lt_of_block hS1.r3) |>.trans hS1.r3)).2.2.2.1
 have q1 := fun (d : Nat) (os : Array Obj) => Calls.regrown_of (item_of l A n c HL.out hn p ix p.parent (grow (redrawn w2 d) os) (hS1.its.keep (below_regrown w2 d os)) x HX.out)
 have q2 := fun (d : Nat) (os : Array Obj) => Calls.regrown_of (item_of l A n c HL.out hn p ix p.after (grow (redrawn w2 d) os) (hS1.its.keep (below_regrown w2 d os)) y HY.out)
 have Q1 := hide q1; have Q2 := hide q2; clear q1 q2 hS1
 have fx0 := fieldI0 x; have fy0 := fieldI0 y; have fy2 := fieldI2 y
 have hn0 : (y.kind != 0) = true := by rw [bne, hK0]; rfl
 refine wp_region_quiet_below (by kernel_rfl) (by decide +kernel) ?_
 repeat (first | go_big_quiet_step (fail) | quiet_step (fail))
 (refine wpQuiet_step (fun K hK => ?_); rw [if_pos (by rfl)]; refine quiet_load_mid 143 (.tmp 1) rfl w.heap.size 0 rfl _ _ (fun _ ⟨q, e⟩ => e ▸ HR1.out q.d q.os) underlying143 rfl (by kernel_rfl) ?_; refine hK _ ?_; clear hK K)
 repeat (first | go_big_quiet_step (fail) | quiet_step (fail))
 (first | go_big_quiet_step (exact Q1.out _ _) | quiet_step (exact Q1.out _ _))
 repeat (first | go_big_quiet_step (fail) | quiet_step (fail))
 (refine wpQuiet_step (fun K hK => ?_); rw [if_pos (by rfl)]; refine quiet_load_mid 143 (.tmp 1) rfl w.heap.size 0 rfl _ _ (fun _ ⟨q, e⟩ => e ▸ HR1.out q.d q.os) underlying143 rfl (by kernel_rfl) ?_; refine hK _ ?_; clear hK K)
 repeat (first | go_big_quiet_step (fail) | quiet_step (fail))
 (first | go_big_quiet_step (exact Q2.out _ _) | quiet_step (exact Q2.out _ _))
 repeat (first | go_big_quiet_step (fail) | quiet_step (fail))
 (refine wpQuiet_step (fun K hK => ?_); rw [if_pos (by rfl)]; refine quiet_load_mid 143 (.tmp 1) rfl w.heap.size 0 rfl _ _ (fun _ ⟨q, e⟩ => e ▸ HR1.out q.d q.os) underlying143 rfl (by kernel_rfl) ?_; refine hK _ ?_; clear hK K)
 repeat (first | go_big_quiet_step (fail) | quiet_step (fail))
 (first | go_big_quiet_step (exact Q2.out _ _) | quiet_step (exact Q2.out _ _))
 repeat (first | go_big_quiet_step (fail) | quiet_step (fail))
 refine wpQuiet_nil ?_
 intro _ hw2
 obtain ⟨⟨dq, osq⟩, hw3⟩ := hw2
 subst hw3
 go_wp2
 go_ret
 exact ⟨rfl, bnext hb1 (below_regrown w2 dq osq)⟩
attribute [-go_sem] Instr.storeAt in
theorem exists_e (l : List Dg.It) (A : Option Addr) (n c : Nat) (hl : l.length = n) (hn : n ≤ 1048576) (p : Dg.Pt) (ix : Int) (w : World) (hI : Its w w.heap.size A l) (x y : Dg.It) (hx : Dg.itemA l p.parent = x) (hy : Dg.itemA l p.after = y) (hP : p.parent.toList.isEmpty = true) (hA : p.after.toList.isEmpty = true) :
  Calls Tryz.prog 89 #[.agg (Rq5 A n c p ix)] w fun e w' => e = .returned (.bool true) ∧ Below w.heap.size w w' := by
 have r1 := heap_alloc_new w (.cells (Rq5 A n c p ix) 143)
 have hb1 := nwB w (.cells (Rq5 A n c p ix) 143)
 have HL := hide hl; have HX := hide hx; have HY := hide hy
 have HI1 := hide (hI.keep hb1)
 clear hI hl hx hy
 go_enter func89, ntmps89
 go_upto_region 1 with (fail)
 generalize w.alloc (.cells (Rq5 A n c p ix) 143) = w1 at *
 have hRG := hide (range_of r1 1 (Rq0 p) rfl)
 have hst := store_new (ty := 53) (T := 53) w1 Rq2 (Rq0 p) (by kernel_rfl) rfl (all_oneCell_toArray (ptL.one p))
 go_upto_region 2 with (first | (with_reducible refine wpList_load_mid rfl 53 (.tmp 4) rfl w.heap.size 1 rfl _ _ hRG.out underlying53 rfl (by kernel_rfl) ?_))
 clear hRG hst
 have r3 := heap_alloc_new w1 (.cells (Rq0 p) 53)
 have hb2 := nwB w1 (.cells (Rq0 p) 53)
 have hS1 : ChS w.heap.size w1.heap.size A n c l p ix (w1.alloc (.cells (Rq0 p) 53)) := ⟨iNext r1 hb2, r3, HI1.out.keep hb2⟩
 replace hb1 := bnext hb1 hb2
 clear r1 r3 HI1 hb2
 generalize w1.alloc (.cells (Rq0 p) 53) = w2 at *
 have HR1 := hide (fun (d : Nat) (os : Array Obj) => range_of ((below_regrown w2 d os).block _ (lt_of_block hS1.r1) |>.trans hS1.r1) 0 (Rq5 A n c p ix) rfl)
 have k2 := fun (d : Nat) (os : Array Obj) => (jC15 ((below_regrown w2 d os).block _ (lt_of_block hS1.r3) |>.trans hS1.r3)).2.2.1
 have k3 := fun (d : Nat) (os : Array Obj) => (jC15 ((below_regrown w2 d os).block _ (lt_of_block hS1.r3) |>.trans hS1.r3)).2.2.2.1
 have q1 := fun (d : Nat) (os : Array Obj) => Calls.regrown_of (item_of l A n c HL.out hn p ix p.parent (grow (redrawn w2 d) os) (hS1.its.keep (below_regrown w2 d os)) x HX.out)
 have q2 := fun (d : Nat) (os : Array Obj) => Calls.regrown_of (item_of l A n c HL.out hn p ix p.after (grow (redrawn w2 d) os) (hS1.its.keep (below_regrown w2 d os)) y HY.out)
 have Q1 := hide q1; have Q2 := hide q2; clear q1 q2 hS1
 have fx0 := fieldI0 x; have fy0 := fieldI0 y; have fy2 := fieldI2 y
 refine wp_region_quiet_below (by kernel_rfl) (by decide +kernel) ?_
 repeat (first | go_big_quiet_step (fail) | quiet_step (fail))
 refine wpQuiet_nil ?_
 intro _ hw2
 obtain ⟨⟨dq, osq⟩, hw3⟩ := hw2
 subst hw3
 go_wp2
 go_ret
 exact ⟨rfl, bnext hb1 (below_regrown w2 dq osq)⟩
attribute [-go_sem] Instr.storeAt in
theorem exists_ef (l : List Dg.It) (A : Option Addr) (n c : Nat) (hl : l.length = n) (hn : n ≤ 1048576) (p : Dg.Pt) (ix : Int) (w : World) (hI : Its w w.heap.size A l) (x y : Dg.It) (hx : Dg.itemA l p.parent = x) (hy : Dg.itemA l p.after = y) (hP : p.parent.toList.isEmpty = true) (hA : p.after.toList.isEmpty = false) (hK0 : (y.kind == 0) = true) :
  Calls Tryz.prog 89 #[.agg (Rq5 A n c p ix)] w fun e w' => e = .returned (.bool false) ∧ Below w.heap.size w w' := by
 have r1 := heap_alloc_new w (.cells (Rq5 A n c p ix) 143)
 have hb1 := nwB w (.cells (Rq5 A n c p ix) 143)
 have HL := hide hl; have HX := hide hx; have HY := hide hy
 have HI1 := hide (hI.keep hb1)
 clear hI hl hx hy
 go_enter func89, ntmps89
 go_upto_region 1 with (fail)
 generalize w.alloc (.cells (Rq5 A n c p ix) 143) = w1 at *
 have hRG := hide (range_of r1 1 (Rq0 p) rfl)
 have hst := store_new (ty := 53) (T := 53) w1 Rq2 (Rq0 p) (by kernel_rfl) rfl (all_oneCell_toArray (ptL.one p))
 go_upto_region 2 with (first | (with_reducible refine wpList_load_mid rfl 53 (.tmp 4) rfl w.heap.size 1 rfl _ _ hRG.out underlying53 rfl (by kernel_rfl) ?_))
 clear hRG hst
 have r3 := heap_alloc_new w1 (.cells (Rq0 p) 53)
 have hb2 := nwB w1 (.cells (Rq0 p) 53)
 have hS1 : ChS w.heap.size w1.heap.size A n c l p ix (w1.alloc (.cells (Rq0 p) 53)) := ⟨iNext r1 hb2, r3, HI1.out.keep hb2⟩
 replace hb1 := bnext hb1 hb2
 clear r1 r3 HI1 hb2
 generalize w1.alloc (.cells (Rq0 p) 53) = w2 at *
 have HR1 := hide (fun (d : Nat) (os : Array Obj) => range_of ((below_regrown w2 d os).block _ (lt_of_block hS1.r1) |>.trans hS1.r1) 0 (Rq5 A n c p ix) rfl)
 have k2 := fun (d : Nat) (os : Array Obj) => (jC15 ((below_regrown w2 d os).block _ (lt_of_block hS1.r3) |>.trans hS1.r3)).2.2.1
 have k3 := fun (d : Nat) (os : Array Obj) => (jC15 ((below_regrown w2 d os).block _ (lt_of_block hS1.r3) |>.trans hS1.r3)).2.2.2.1
 have q1 := fun (d : Nat) (os : Array Obj) => Calls.regrown_of (item_of l A n c HL.out hn p ix p.parent (grow (redrawn w2 d) os) (hS1.its.keep (below_regrown w2 d os)) x HX.out)
 have q2 := fun (d : Nat) (os : Array Obj) => Calls.regrown_of (item_of l A n c HL.out hn p ix p.after (grow (redrawn w2 d) os) (hS1.its.keep (below_regrown w2 d os)) y HY.out)
 have Q1 := hide q1; have Q2 := hide q2; clear q1 q2 hS1
 have fx0 := fieldI0 x; have fy0 := fieldI0 y; have fy2 := fieldI2 y
 have hn0 : (y.kind != 0) = false := by rw [bne, hK0]; rfl
 refine wp_region_quiet_below (by kernel_rfl) (by decide +kernel) ?_
 repeat (first | go_big_quiet_step (fail) | quiet_step (fail))
 (refine wpQuiet_step (fun K hK => ?_); rw [if_pos (by rfl)]; refine quiet_load_mid 143 (.tmp 1) rfl w.heap.size 0 rfl _ _ (fun _ ⟨q, e⟩ => e ▸ HR1.out q.d q.os) underlying143 rfl (by kernel_rfl) ?_; refine hK _ ?_; clear hK K)
 repeat (first | go_big_quiet_step (fail) | quiet_step (fail))
 (first | go_big_quiet_step (exact Q2.out _ _) | quiet_step (exact Q2.out _ _))
 repeat (first | go_big_quiet_step (fail) | quiet_step (fail))
 refine wpQuiet_nil ?_
 intro _ hw2
 obtain ⟨⟨dq, osq⟩, hw3⟩ := hw2
 subst hw3
 go_wp2
 go_ret
 exact ⟨rfl, bnext hb1 (below_regrown w2 dq osq)⟩
attribute [-go_sem] Instr.storeAt in
theorem exists_eff (l : List Dg.It) (A : Option Addr) (n c : Nat) (hl : l.length = n) (hn : n ≤ 1048576) (p : Dg.Pt) (ix : Int) (w : World) (hI : Its w w.heap.size A l) (x y : Dg.It) (hx : Dg.itemA l p.parent = x) (hy : Dg.itemA l p.after = y) (hP : p.parent.toList.isEmpty = true) (hA : p.after.toList.isEmpty = false) (hK0 : (y.kind == 0) = false) :
  Calls Tryz.prog 89 #[.agg (Rq5 A n c p ix)] w fun e w' => e = .returned (.bool (y.parent.toList == p.parent.toList)) ∧ Below w.heap.size w w' := by
 have r1 := heap_alloc_new w (.cells (Rq5 A n c p ix) 143)
 have hb1 := nwB w (.cells (Rq5 A n c p ix) 143)
 have HL := hide hl; have HX := hide hx; have HY := hide hy
 have HI1 := hide (hI.keep hb1)
 clear hI hl hx hy
 go_enter func89, ntmps89
 go_upto_region 1 with (fail)
 generalize w.alloc (.cells (Rq5 A n c p ix) 143) = w1 at *
 have hRG := hide (range_of r1 1 (Rq0 p) rfl)
 have hst := store_new (ty := 53) (T := 53) w1 Rq2 (Rq0 p) (by kernel_rfl) rfl (all_oneCell_toArray (ptL.one p))
 go_upto_region 2 with (first | (with_reducible refine wpList_load_mid rfl 53 (.tmp 4) rfl w.heap.size 1 rfl _ _ hRG.out underlying53 rfl (by kernel_rfl) ?_))
 clear hRG hst
 have r3 := heap_alloc_new w1 (.cells (Rq0 p) 53)
 have hb2 := nwB w1 (.cells (Rq0 p) 53)
 have hS1 : ChS w.heap.size w1.heap.size A n c l p ix (w1.alloc (.cells (Rq0 p) 53)) := ⟨iNext r1 hb2, r3, HI1.out.keep hb2⟩
 replace hb1 := bnext hb1 hb2
 clear r1 r3 HI1 hb2
 generalize w1.alloc (.cells (Rq0 p) 53) = w2 at *
 have HR1 := hide (fun (d : Nat) (os : Array Obj) => range_of ((below_regrown w2 d os).block _ (lt_of_block hS1.r1) |>.trans hS1.r1) 0 (Rq5 A n c p ix) rfl)
 have k2 := fun (d : Nat) (os : Array Obj) => (jC15 ((below_regrown w2 d os).block _ (lt_of_block hS1.r3) |>.trans hS1.r3)).2.2.1
 have k3 := fun (d : Nat) (os : Array Obj) => (jC15 ((below_regrown w2 d os).block _ (lt_of_block hS1.r3) |>.trans hS1.r3)).2.2.2.1
 have q1 := fun (d : Nat) (os : Array Obj) => Calls.regrown_of (item_of l A n c HL.out hn p ix p.parent (grow (redrawn w2 d) os) (hS1.its.keep (below_regrown w2 d os)) x HX.out)
 have q2 := fun (d : Nat) (os : Array Obj) => Calls.regrown_of (item_of l A n c HL.out hn p ix p.after (grow (redrawn w2 d) os) (hS1.its.keep (below_regrown w2 d os)) y HY.out)
 have Q1 := hide q1; have Q2 := hide q2; clear q1 q2 hS1
 have fx0 := fieldI0 x; have fy0 := fieldI0 y; have fy2 := fieldI2 y
 have hn0 : (y.kind != 0) = true := by rw [bne, hK0]; rfl
 refine wp_region_quiet_below (by kernel_rfl) (by decide +kernel) ?_
 repeat (first | go_big_quiet_step (fail) | quiet_step (fail))
 (refine wpQuiet_step (fun K hK => ?_); rw [if_pos (by rfl)]; refine quiet_load_mid 143 (.tmp 1) rfl w.heap.size 0 rfl _ _ (fun _ ⟨q, e⟩ => e ▸ HR1.out q.d q.os) underlying143 rfl (by kernel_rfl) ?_; refine hK _ ?_; clear hK K)
 repeat (first | go_big_quiet_step (fail) | quiet_step (fail))
 (first | go_big_quiet_step (exact Q2.out _ _) | quiet_step (exact Q2.out _ _))
 repeat (first | go_big_quiet_step (fail) | quiet_step (fail))
 (refine wpQuiet_step (fun K hK => ?_); rw [if_pos (by rfl)]; refine quiet_load_mid 143 (.tmp 1) rfl w.heap.size 0 rfl _ _ (fun _ ⟨q, e⟩ => e ▸ HR1.out q.d q.os) underlying143 rfl (by kernel_rfl) ?_; refine hK _ ?_; clear hK K)
 repeat (first | go_big_quiet_step (fail) | quiet_step (fail))
 (first | go_big_quiet_step (exact Q2.out _ _) | quiet_step (exact Q2.out _ _))
 repeat (first | go_big_quiet_step (fail) | quiet_step (fail))
 refine wpQuiet_nil ?_
 intro _ hw2
 obtain ⟨⟨dq, osq⟩, hw3⟩ := hw2
 subst hw3
 go_wp2
 go_ret
 exact ⟨rfl, bnext hb1 (below_regrown w2 dq osq)⟩
theorem exists_of (l : List Dg.It) (A : Option Addr) (n c : Nat) (hl : l.length = n) (hn : n ≤ 1048576) (p : Dg.Pt) (ix : Int) (w : World) (hI : Its w w.heap.size A l) (R : Bool) (hR : Dg.existsP l p = R) :
  Calls Tryz.prog 89 #[.agg (Rq5 A n c p ix)] w fun e w' => e = .returned (.bool R) ∧ Below w.heap.size w w' := by
 obtain ⟨x, hx⟩ : ∃ x, Dg.itemA l p.parent = x := ⟨_, rfl⟩
 obtain ⟨y, hy⟩ : ∃ y, Dg.itemA l p.after = y := ⟨_, rfl⟩
 have hE : ((decide (p.parent = Dg.nil8) || decide (x.kind = 1)) && (decide (p.after = Dg.nil8) || (!(decide (y.kind = 0)) && decide (y.parent = p.parent)))) = R := by rw [← hR, ← hx, ← hy]; rfl
 rw [emp_iff, emp_iff] at hE
 rw [show decide (x.kind = 1) = (x.kind == 1) from rfl, show decide (y.kind = 0) = (y.kind == 0) from rfl] at hE
 have hyp : decide (y.parent = p.parent) = (y.parent.toList == p.parent.toList) := by
  rw [Bool.eq_iff_iff, decide_eq_true_iff]
  exact (Lib.bytes_beq_iff _ _).symm
 rw [hyp] at hE
 cases hP : p.parent.toList.isEmpty with
 | false =>
  cases hK : (x.kind == 1) with
  | false =>
   obtain rfl : false = R := by rw [← hE, hP, hK]; rfl
   exact exists_pf l A n c hl hn p ix w hI x y hx hy hP hK
  | true =>
   cases hA : p.after.toList.isEmpty with
   | true =>
    obtain rfl : true = R := by rw [← hE, hP, hK, hA]; rfl
    exact exists_pt l A n c hl hn p ix w hI x y hx hy hP hK hA
   | false =>
    cases hK0 : (y.kind == 0) with
    | true =>
     obtain rfl : false = R := by rw [← hE, hP, hK, hA, hK0]; rfl
     exact exists_ptf l A n c hl hn p ix w hI x y hx hy hP hK hA hK0
    | false =>
     obtain rfl : (y.parent.toList == p.parent.toList) = R := by rw [← hE, hP, hK, hA, hK0]; simp
     exact exists_ptff l A n c hl hn p ix w hI x y hx hy hP hK hA hK0
 | true =>
  cases hA : p.after.toList.isEmpty with
  | true =>
   obtain rfl : true = R := by rw [← hE, hP, hA]; rfl
   exact exists_e l A n c hl hn p ix w hI x y hx hy hP hA
  | false =>
   cases hK0 : (y.kind == 0) with
   | true =>
    obtain rfl : false = R := by rw [← hE, hP, hA, hK0]; rfl
    exact exists_ef l A n c hl hn p ix w hI x y hx hy hP hA hK0
   | false =>
    obtain rfl : (y.parent.toList == p.parent.toList) = R := by rw [← hE, hP, hA, hK0]; simp
    exact exists_eff l A n c hl hn p ix w hI x y hx hy hP hA hK0
theorem Lay.flat_set {α : Type} (L : Lay α) (l : List α) (i : Nat) (hi : i < l.length) (y : α) : L.flat (l.set i y) = L.flat (l.take i) ++ (L.C y ++ L.flat (l.drop (i + 1))) := by
 rw [List.set_eq_take_append_cons_drop, if_pos hi, L.flat_append, L.flat_cons]
theorem store_elem {α : Type} (L : Lay α) {ty T : TypeId} (w : World) (g : Nat) (l : List α) (sp : List Value) (i : Nat) (hi : i < l.length) (y : α) (cells : Array Value) (hc : cells.toList = L.C y) (hg : w.heap[g]? = some (.cells (L.flat l ++ sp).toArray T (0, 0))) (hs : (Tryz.prog.info? ty).map (·.size) = some L.k) :
  (Instr.storeAt ty (.pointer (some ⟨g, i * L.k, none⟩)) (.agg cells)).run Tryz.prog w = .ok () (w.setRow g (L.flat (l.set i y) ++ sp).toArray) := by
 have hlen : cells.size = L.k := by rw [← Array.length_toList, hc, L.len]
 have h := run_storeCells_at Tryz.prog g (i * L.k) T cells.toList 0 _ w hg (by
  rw [hc, L.len, List.size_toArray, List.length_append, L.flat_len]
  have := Nat.mul_le_mul_right L.k (show i + 1 ≤ l.length from hi)
  rw [Nat.add_mul, Nat.one_mul] at this
  omega) (fun u hu => by rw [hc] at hu; exact L.one y u hu)
 have e : (L.flat l ++ sp).toArray.toList.take (i * L.k + 0) ++ cells.toList ++ (L.flat l ++ sp).toArray.toList.drop (i * L.k + 0 + cells.toList.length) = L.flat (l.set i y) ++ sp := by
  show (L.flat l ++ sp).take (i * L.k + 0) ++ cells.toList ++ (L.flat l ++ sp).drop (i * L.k + 0 + cells.toList.length) = _
  rw [L.flat_set l i hi y, hc, L.len, Nat.add_zero]
  have hle : i * L.k ≤ (L.flat l).length := by rw [L.flat_len]; exact Nat.mul_le_mul_right _ (by omega)
  have hle2 : i * L.k + L.k ≤ (L.flat l).length := by
   rw [L.flat_len]
   have := Nat.mul_le_mul_right L.k (show i + 1 ≤ l.length from hi)
   rw [Nat.add_mul, Nat.one_mul] at this
   omega
  rw [List.take_append_of_le_length hle, List.drop_append_of_le_length hle2, ← L.flat_take, show i * L.k + L.k = (i + 1) * L.k by rw [Nat.add_mul, Nat.one_mul], ← L.flat_drop]
  simp only [List.append_assoc]
 rw [e] at h
 cases hq : Tryz.prog.info? ty with
 | none => rw [hq] at hs; cases hs
 | some q =>
  have hqs : q.size = L.k := by rw [hq] at hs; injection hs
  simp [Instr.storeAt, Instr.sureAddr, storeVar, sizeOf, typeInfo, hq, Value.cells, hlen, hqs, h]
theorem store_row {ty T : TypeId} (W : World) (g : Nat) (old cells : Array Value) (hg : W.heap[g]? = some (.cells old T (0, 0))) (hi : (Tryz.prog.info? ty).map (·.size) = some cells.size) (hold : old.size = cells.size) (h1 : cells.all (·.oneCell') = true) :
  (Instr.storeAt ty (.pointer (some ⟨g, 0, none⟩)) (.agg cells)).run Tryz.prog W = .ok () (W.setRow g cells) := by
 simp only [Instr.storeAt, Instr.sureAddr, Sem.run_bind, Sem.run_pure, Result.andThen_ok, run_storeVar_row (P := Tryz.prog) W g T ty old cells hg hi hold h1]
theorem Own1.set {α : Type} {L : Lay α} {e : TypeId} {w : World} {B g cap : Nat} {l : List α} {sp : List Value} (hB : B ≤ g) (hm : cap ≤ maxLen) (hc : l.length ≤ cap) (hs : sp.length = (cap - l.length) * L.k) (hg : w.heap[g]? = some (.cells (L.flat l ++ sp).toArray e (0, 0))) (i : Nat) (y : α) : Own1 L e (w.setRow g (L.flat (l.set i y) ++ sp).toArray) B (.slice (some ⟨g, 0, none⟩) l.length cap) (l.set i y) := by
 have := Own1.mk (L := L) (l := l.set i y) (sp := sp) hB (setRow_heap w g _ (L.flat (l.set i y) ++ sp).toArray _ _ hg) hm (by rw [List.length_set]; exact hc) (by rw [List.length_set]; exact hs)
 rw [List.length_set] at this
 exact this
theorem own_other {α : Type} {L : Lay α} {e : TypeId} {w : World} {B : Nat} {v : Value} {l : List α} (h : Own1 L e w B v l) {g : Nat} (hne : v.ownBlock ≠ some g) (cs : Array Value) : Own1 L e (w.setRow g cs) B v l := by
 obtain ⟨h1, h2⟩ := h
 refine ⟨h1, ?_⟩
 rcases h2 with h2 | ⟨b, cap, cur, hv, hB, hh, r⟩
 ·exact Or.inl h2
 ·refine Or.inr ⟨b, cap, cur, hv, hB, (setRow_other w g b cs (fun e => hne (by rw [hv]; exact congrArg some e))).trans hh, r⟩
theorem own_weak {α : Type} {L : Lay α} {e : TypeId} {w : World} {B B' : Nat} {v : Value} {l : List α} (h : Own1 L e w B v l) (hB : B' ≤ B) : Own1 L e w B' v l := by
 obtain ⟨h1, h2⟩ := h
 refine ⟨h1, ?_⟩
 rcases h2 with h2 | ⟨b, cap, cur, hv, hB2, r⟩
 ·exact Or.inl h2
 ·exact Or.inr ⟨b, cap, cur, hv, by omega, r⟩
theorem infoCode1 : (Tryz.prog.info? 24).map (·.size) = some 1 := by kernel_rfl
attribute [-go_sem] Instr.storeAt in
theorem with_of (l : List Dg.It) (A : Option Addr) (n c : Nat) (hl : l.length = n) (hn : n ≤ 1048576) (p : Dg.Pt) (i : Nat) (hi : i < n) (y : Dg.It) (w : World) (hI : Its w w.heap.size A l) :
  Calls Tryz.prog 92 #[.agg (Rq5 A n c p i), .agg (Rq4 y)] w fun e w' => ∃ v', e = .returned (.agg #[v']) ∧ Own1 iLay 51 w' w.heap.size v' (l.set i y) ∧ Below w.heap.size w w' := by
 obtain ⟨r1, r2, r3, hb, hs⟩ := iAlloc3 w (.cells (Rq5 A n c p i) 143) (.cells (Rq4 y) 51) (.cells Rq3 24)
 have HI := hide (hI.keep hb); have HL := hide hl
 clear hI hl
 have c0 := (jC17 r1).1
 go_enter func92, ntmps92
 go_wp2_with fail
 generalize ((w.alloc (.cells (Rq5 A n c p i) 143)).alloc (.cells (Rq4 y) 51)).alloc (.cells Rq3 24) = W1 at *
 refine (cloneI_any A n c l W1 HL.out (by omega) HI.out).mono ?_
 rintro e w2 ⟨v1, rfl, hO, hb2⟩
 clear c0
 have r12 := iNext r1 hb2
 have r22 := iNext r2 hb2
 have r32 := iNext r3 hb2
 have hb3 := bnext hb hb2
 obtain ⟨g, cap, sp, hv1, hBg, hgl, hg, hc, hm, hsp⟩ := hO.form (by rw [HL.out]; omega)
 have hci := (jC17 r12)
 have ci := hci.2.2.2.2.2.2.2.2.2.2.2.2.2.2.2.2
 obtain ⟨y0, y1, y2, y3, y4, y5, y6⟩ := iCells r22
 have hst := store_elem iLay (ty := 51) w2 g l sp i (by rw [HL.out]; exact hi) y (Rq4 y) rfl hg infoItem7
 have hOs := Own1.set (L := iLay) hBg hm hc hsp hg i y
 have hbs := below_setRow (B := W1.heap.size) (Below.refl _ w2) hBg (iLay.flat (l.set i y) ++ sp).toArray
 rw [HL.out] at hv1 hOs
 have HO := hide hOs
 have r33 : (w2.setRow g (iLay.flat (l.set i y) ++ sp).toArray).heap[w.heap.size + 1 + 1]? = some (.cells Rq3 24 (0, 0)) := (setRow_other w2 g _ _ (by omega)).trans r32
 have hb4 := hb3.trans (hbs.mono (by omega))
 have hk7 : iLay.k = 7 := rfl
 rw [hk7] at hst
 have h0 : (0 : Int) ≤ (i : Int) := by omega
 have h1 : (i : Int) < (n : Int) := by omega
 have HB := hide (And.intro hBg hs)
 subst hv1
 clear hO hb hb2 hb3 r1 r2 r3 r12 r22 r32 hg hgl hc hm hsp hOs hbs hci hBg hk7 hs
 go_upto_region 3 with (fail)
 clear ci y0 y1 y2 y3 y4 y5 y6 hst
 generalize w2.setRow g (iLay.flat (l.set i y) ++ sp).toArray = w3 at *
 have hst := store_row (ty := 24) w3 (w.heap.size + 1 + 1) Rq3 #[.slice (some ⟨g, 0, none⟩) n cap] r33 infoCode1 rfl (by simp [Value.oneCell'])
 have r34 := setRow_heap w3 (w.heap.size + 1 + 1) _ #[.slice (some ⟨g, 0, none⟩) n cap] _ _ r33
 have hb5 := below_setRow hb4 (by omega) (g := w.heap.size + 1 + 1) #[.slice (some ⟨g, 0, none⟩) n cap]
 have HO2 := hide (own_other (HO.out) (g := w.heap.size + 1 + 1) (by have := HB.out; intro e; injection e with e; have e2 : g = w.heap.size + 1 + 1 := e; omega) #[.slice (some ⟨g, 0, none⟩) n cap])
 clear HO hb4 r33
 go_wp2
 refine bodyPost_ret (results_cell_row (P := Tryz.prog) results92 _ _ (w.heap.size + 1 + 1) 24 #[.slice (some ⟨g, 0, none⟩) n cap] (0, 0) _ rfl r34 underlying24 rfl (by kernel_rfl)) rfl ⟨_, rfl, ?_, hb5⟩
 exact own_weak HO2.out (by have := HB.out; omega)
theorem store_part {ty T : TypeId} (W : World) (g o : Nat) (old : Array Value) (v : Value) (new : Array Value) (hg : W.heap[g]? = some (.cells old T (0, 0))) (hi : (Tryz.prog.info? ty).map (·.size) = some v.cells.size) (hle : o + v.cells.size ≤ old.size) (h1 : ∀ u ∈ v.cells.toList, u.oneCell' = true) (hnew : old.toList.take o ++ v.cells.toList ++ old.toList.drop (o + v.cells.size) = new.toList) :
  (Instr.storeAt ty (.pointer (some ⟨g, o, none⟩)) v).run Tryz.prog W = .ok () (W.setRow g new) := by
 have h := run_storeCells_at Tryz.prog g o T v.cells.toList 0 _ W hg (by rw [Array.length_toList]; omega) h1
 rw [Nat.add_zero, Array.length_toList, hnew, Array.toArray_toList] at h
 cases hq : Tryz.prog.info? ty with
 | none => rw [hq] at hi; cases hi
 | some q =>
  have hqs : q.size = v.cells.size := by rw [hq] at hi; injection hi
  simp [Instr.storeAt, Instr.sureAddr, storeVar, sizeOf, typeInfo, hq, hqs, h]
theorem infoStr1 : (Tryz.prog.info? 9).map (·.size) = some 1 := by kernel_rfl
theorem infoBool1 : (Tryz.prog.info? 4).map (·.size) = some 1 := by kernel_rfl
theorem one_str (s : ByteArray) : ∀ u ∈ (Value.string s).cells.toList, u.oneCell' = true := fun u hu => by
 obtain rfl : u = .string s := List.mem_singleton.1 hu
 rfl
theorem one_bool (s : Bool) : ∀ u ∈ (Value.bool s).cells.toList, u.oneCell' = true := fun u hu => by
 obtain rfl : u = .bool s := List.mem_singleton.1 hu
 rfl
theorem one_int (k : IntKind) (s : Int) : ∀ u ∈ (Value.int k s).cells.toList, u.oneCell' = true := fun u hu => by
 obtain rfl : u = .int k s := List.mem_singleton.1 hu
 rfl
theorem one_code (A : Option Addr) (n c : Nat) : ∀ u ∈ (Value.agg #[.slice A n c]).cells.toList, u.oneCell' = true := fun u hu => by
 obtain rfl : u = .slice A n c := List.mem_singleton.1 hu
 rfl
theorem its_range {w : World} {B b off : Nat} {l : List Dg.It} (h : Its w B (some ⟨b, off, none⟩) l) {k : Nat} (hk : k < l.length) (x : Dg.It) (hx : l[k] = x) : w.rangeAt b (off + k * 7) (itV x).toList := fun j u hj => by
 obtain ⟨b', off', e, _, hc⟩ := h.at_ (by omega)
 injection e with e
 injection e with e1 e2 _
 subst e1 e2
 exact hc k x (by rw [List.getElem?_eq_getElem hk, hx]) j u (by rw [← Array.getElem?_toList]; exact hj)
theorem its_other {w : World} {B : Nat} {A : Option Addr} {l : List Dg.It} (h : Its w B A l) {g : Nat} (hg : B ≤ g) (cs : Array Value) : Its (w.setRow g cs) B A l := h.same fun k hk => setRow_other w g k cs (by omega)
attribute [-go_sem] Instr.storeAt in
theorem number_of (l : List Dg.It) (A : Option Addr) (n c : Nat) (hl : l.length = n) (hn : n ≤ 1048576) (p : Dg.Pt) (i : Nat) (hi : i < n) (y : Dg.It) (hy : l.getD i Dg.zeroI = y)  (w : World) (hI : Its w w.heap.size A l) :
  Calls Tryz.prog 65 #[.agg (Rq5 A n c p i)] w fun e w' => ∃ v', e = .returned (.tuple #[.agg #[v'], .int .i64 0]) ∧ Own1 iLay 51 w' w.heap.size v' (l.set i { y with number := p.number }) ∧ Below w.heap.size w w' := by
 obtain ⟨r1, r2, hb, hs⟩ := iAlloc2 w (.cells (Rq5 A n c p i) 143) (.cells Rq3 24)
 have hil : i < l.length := by omega
 have hyi : l[i] = y := by rw [← hy]; simp [List.getD_eq_getElem?_getD, hil]
 obtain ⟨b, off, hA⟩ := hI.some hil
 subst hA
 have hI1 := hI.below hb
 have hRI := hide (show ((w.alloc (.cells (Rq6 b off n c p i) 143)).alloc (.cells Rq3 24)).rangeAt b (off + i * 7) (Rq4 y) from its_range hI1 hil y hyi)
 have HI := hide hI1; have HL := hide hl
 clear hI hI1 hyi hil hl hy
 have hcs := jC17 r1
 have c0 := hcs.1
 have ci := hcs.2.2.2.2.2.2.2.2.2.2.2.2.2.2.2.2
 clear hcs
 have h0 : (0 : Int) ≤ (i : Int) := by omega
 have h1 : (i : Int) < (n : Int) := by omega
 go_enter func65, ntmps65
 go_upto_region 1 with (fail)
 have hsz : w.heap.size + 2 ≤ ((w.alloc (.cells (Rq6 b off n c p i) 143)).alloc (.cells Rq3 24)).heap.size := by omega
 clear hs
 generalize (w.alloc (.cells (Rq6 b off n c p i) 143)).alloc (.cells Rq3 24) = W1 at *
 have hst := store_new (ty := 51) (T := 51) W1 Rq1 (Rq4 y) (by kernel_rfl) rfl (all_oneCell_toArray (iLay.one y))
 go_upto_region 2 with (with_reducible refine wpList_load_mid rfl 51 (.tmp 10) rfl b (off + i * 7) rfl _ _ hRI.out underlying51 rfl (by kernel_rfl) ?_)
 clear hst hRI c0 ci
 have r4 := heap_alloc_new W1 (.cells (Rq4 y) 51)
 have hb2 := nwB W1 (.cells (Rq4 y) 51)
 have r12 := iNext r1 hb2
 have r22 := iNext r2 hb2
 have HI2 := hide (HI.out.below (hb2.mono (by omega)))
 have hb3 := bnext hb hb2
 have hszb := (show W1.heap.size < (W1.alloc (.cells (Rq4 y) 51)).heap.size by simp)
 obtain ⟨b4, hb4⟩ : ∃ b4, b4 = W1.heap.size := ⟨_, rfl⟩
 have HB4 := hide hb4
 rw [← hb4] at r4 hsz hszb ⊢
 clear hb hb2 r1 r2 HI hb4
 generalize W1.alloc (.cells (Rq4 y) 51) = w2 at *
 clear HB4
 have hst := store_part (ty := 9) w2 b4 3 (Rq4 y) (.string p.number) #[.int .i64 y.kind, .string y.id, .string y.parent, .string p.number, .string y.north, .string y.south, .bool y.gone] r4 infoStr1 (by show 3 + 1 ≤ 7; decide) (one_str _) rfl
 have r13 : (w2.setRow b4 #[.int .i64 y.kind, .string y.id, .string y.parent, .string p.number, .string y.north, .string y.south, .bool y.gone]).heap[w.heap.size]? = some (.cells (Rq6 b off n c p i) 143 (0, 0)) := (setRow_other w2 b4 _ _ (by omega)).trans r12
 have r23 : (w2.setRow b4 #[.int .i64 y.kind, .string y.id, .string y.parent, .string p.number, .string y.north, .string y.south, .bool y.gone]).heap[w.heap.size + 1]? = some (.cells Rq3 24 (0, 0)) := (setRow_other w2 b4 _ _ (by omega)).trans r22
 have r43 := setRow_heap w2 b4 _ #[.int .i64 y.kind, .string y.id, .string y.parent, .string p.number, .string y.north, .string y.south, .bool y.gone] _ _ r4
 have HI3 := hide (its_other HI2.out (g := b4) (by omega) #[.int .i64 y.kind, .string y.id, .string y.parent, .string p.number, .string y.north, .string y.south, .bool y.gone])
 have hb5 := below_setRow hb3 (by omega) (g := b4) #[.int .i64 y.kind, .string y.id, .string y.parent, .string p.number, .string y.north, .string y.south, .bool y.gone]
 have hcs := jC17 r12
 have c5 := hcs.2.2.2.2.2.1
 clear hcs
 go_upto_region 3 with (fail)
 clear c5 hst r12 r22 r4 HI2 hb3
 generalize w2.setRow b4 #[.int .i64 y.kind, .string y.id, .string y.parent, .string p.number, .string y.north, .string y.south, .bool y.gone] = w3 at *
 have hR17 := hide (range_of r13 0 (Rq6 b off n c p i) rfl)
 have hR7 := hide (range_of r43 0 [.int .i64 y.kind, .string y.id, .string y.parent, .string p.number, .string y.north, .string y.south, .bool y.gone] rfl)
 go_wp2_with (first | (with_reducible refine wpList_load_mid rfl 143 (.tmp 1) rfl w.heap.size 0 rfl _ _ hR17.out underlying143 rfl (by kernel_rfl) ?_) | (with_reducible refine wpList_load_mid rfl 51 (.tmp 4) rfl b4 0 rfl _ _ hR7.out underlying51 rfl (by kernel_rfl) ?_))
 refine (with_of l (some ⟨b, off, none⟩) n c HL.out hn p i hi { y with number := p.number } w3 (HI3.out.more hb5.size)).mono ?_
 rintro e w4 ⟨v', rfl, hO, hb6⟩
 have hl3 := lt_of_block r43
 clear hR17 hR7 r13 r43
 obtain ⟨A', c', rfl, _, _⟩ := hO.row
 obtain ⟨m', hm'⟩ : ∃ m', (l.set i { y with number := p.number }).length = m' := ⟨_, rfl⟩
 rw [hm'] at hO ⊢
 clear hm'
 have r24 := iNext r23 hb6
 have hb7 := bnext hb5 hb6
 have hst := store_part (ty := 24) w4 (w.heap.size + 1) 0 Rq3 (.agg #[.slice A' m' c']) #[.slice A' m' c'] r24 infoCode1 (Nat.le_refl _) (one_code _ _ _) rfl
 have r25 := setRow_heap w4 (w.heap.size + 1) _ #[.slice A' m' c'] _ _ r24
 have hb8 := below_setRow hb7 (by omega) (g := w.heap.size + 1) #[.slice A' m' c']
 have HO2 := hide (own_other hO (g := w.heap.size + 1) (fun e => by have := (World.ownsRow.lt hO _ e).1; omega) #[.slice A' m' c'])
 clear hO hb6 hb7 r23 r24
 go_wp2
 refine bodyPost_ret (results_c8 results65 _ _ (w.heap.size + 1) 24 #[.slice A' m' c'] (0, 0) _ rfl r25 underlying24 (by kernel_rfl)) rfl ⟨_, rfl, own_weak HO2.out (by omega), hb8⟩
attribute [-go_sem] Instr.storeAt in
theorem gone_of (l : List Dg.It) (A : Option Addr) (n c : Nat) (hl : l.length = n) (hn : n ≤ 1048576) (p : Dg.Pt) (i : Nat) (hi : i < n) (y : Dg.It) (hy : l.getD i Dg.zeroI = y) (R : Bool) (hR : (p.kind == 5) = R) (w : World) (hI : Its w w.heap.size A l) :
  Calls Tryz.prog 67 #[.agg (Rq5 A n c p i)] w fun e w' => ∃ v', e = .returned (.tuple #[.agg #[v'], .int .i64 0]) ∧ Own1 iLay 51 w' w.heap.size v' (l.set i { y with gone := R }) ∧ Below w.heap.size w w' := by
 obtain ⟨r1, r2, hb, hs⟩ := iAlloc2 w (.cells (Rq5 A n c p i) 143) (.cells Rq3 24)
 have hil : i < l.length := by omega
 have hyi : l[i] = y := by rw [← hy]; simp [List.getD_eq_getElem?_getD, hil]
 obtain ⟨b, off, hA⟩ := hI.some hil
 subst hA
 have hI1 := hI.below hb
 have hRI := hide (show ((w.alloc (.cells (Rq6 b off n c p i) 143)).alloc (.cells Rq3 24)).rangeAt b (off + i * 7) (Rq4 y) from its_range hI1 hil y hyi)
 have HI := hide hI1; have HL := hide hl
 clear hI hI1 hyi hil hl hy
 have hcs := jC17 r1
 have c0 := hcs.1
 have ci := hcs.2.2.2.2.2.2.2.2.2.2.2.2.2.2.2.2
 clear hcs
 have h0 : (0 : Int) ≤ (i : Int) := by omega
 have h1 : (i : Int) < (n : Int) := by omega
 go_enter func67, ntmps67
 go_upto_region 1 with (fail)
 have hsz : w.heap.size + 2 ≤ ((w.alloc (.cells (Rq6 b off n c p i) 143)).alloc (.cells Rq3 24)).heap.size := by omega
 clear hs
 generalize (w.alloc (.cells (Rq6 b off n c p i) 143)).alloc (.cells Rq3 24) = W1 at *
 have hst := store_new (ty := 51) (T := 51) W1 Rq1 (Rq4 y) (by kernel_rfl) rfl (all_oneCell_toArray (iLay.one y))
 go_upto_region 2 with (with_reducible refine wpList_load_mid rfl 51 (.tmp 10) rfl b (off + i * 7) rfl _ _ hRI.out underlying51 rfl (by kernel_rfl) ?_)
 clear hst hRI c0 ci
 have r4 := heap_alloc_new W1 (.cells (Rq4 y) 51)
 have hb2 := nwB W1 (.cells (Rq4 y) 51)
 have r12 := iNext r1 hb2
 have r22 := iNext r2 hb2
 have HI2 := hide (HI.out.below (hb2.mono (by omega)))
 have hb3 := bnext hb hb2
 have hszb := (show W1.heap.size < (W1.alloc (.cells (Rq4 y) 51)).heap.size by simp)
 obtain ⟨b4, hb4⟩ : ∃ b4, b4 = W1.heap.size := ⟨_, rfl⟩
 have HB4 := hide hb4
 rw [← hb4] at r4 hsz hszb ⊢
 clear hb hb2 r1 r2 HI hb4
 generalize W1.alloc (.cells (Rq4 y) 51) = w2 at *
 clear HB4
 have hst := store_part (ty := 4) w2 b4 6 (Rq4 y) (.bool R) #[.int .i64 y.kind, .string y.id, .string y.parent, .string y.number, .string y.north, .string y.south, .bool R] r4 infoBool1 (by show 6 + 1 ≤ 7; decide) (one_bool _) rfl
 have r13 : (w2.setRow b4 #[.int .i64 y.kind, .string y.id, .string y.parent, .string y.number, .string y.north, .string y.south, .bool R]).heap[w.heap.size]? = some (.cells (Rq6 b off n c p i) 143 (0, 0)) := (setRow_other w2 b4 _ _ (by omega)).trans r12
 have r23 : (w2.setRow b4 #[.int .i64 y.kind, .string y.id, .string y.parent, .string y.number, .string y.north, .string y.south, .bool R]).heap[w.heap.size + 1]? = some (.cells Rq3 24 (0, 0)) := (setRow_other w2 b4 _ _ (by omega)).trans r22
 have r43 := setRow_heap w2 b4 _ #[.int .i64 y.kind, .string y.id, .string y.parent, .string y.number, .string y.north, .string y.south, .bool R] _ _ r4
 have HI3 := hide (its_other HI2.out (g := b4) (by omega) #[.int .i64 y.kind, .string y.id, .string y.parent, .string y.number, .string y.north, .string y.south, .bool R])
 have hb5 := below_setRow hb3 (by omega) (g := b4) #[.int .i64 y.kind, .string y.id, .string y.parent, .string y.number, .string y.north, .string y.south, .bool R]
 have hcs := jC17 r12
 have c1 := hcs.2.1
 clear hcs
 go_upto_region 3 with (fail)
 clear c1 hst r12 r22 r4 HI2 hb3 hR
 generalize w2.setRow b4 #[.int .i64 y.kind, .string y.id, .string y.parent, .string y.number, .string y.north, .string y.south, .bool R] = w3 at *
 have hR17 := hide (range_of r13 0 (Rq6 b off n c p i) rfl)
 have hR7 := hide (range_of r43 0 [.int .i64 y.kind, .string y.id, .string y.parent, .string y.number, .string y.north, .string y.south, .bool R] rfl)
 go_wp2_with (first | (with_reducible refine wpList_load_mid rfl 143 (.tmp 1) rfl w.heap.size 0 rfl _ _ hR17.out underlying143 rfl (by kernel_rfl) ?_) | (with_reducible refine wpList_load_mid rfl 51 (.tmp 4) rfl b4 0 rfl _ _ hR7.out underlying51 rfl (by kernel_rfl) ?_))
 refine (with_of l (some ⟨b, off, none⟩) n c HL.out hn p i hi { y with gone := R } w3 (HI3.out.more hb5.size)).mono ?_
 rintro e w4 ⟨v', rfl, hO, hb6⟩
 have hl3 := lt_of_block r43
 clear hR17 hR7 r13 r43
 obtain ⟨A', c', rfl, _, _⟩ := hO.row
 obtain ⟨m', hm'⟩ : ∃ m', (l.set i { y with gone := R }).length = m' := ⟨_, rfl⟩
 rw [hm'] at hO ⊢
 clear hm'
 have r24 := iNext r23 hb6
 have hb7 := bnext hb5 hb6
 have hst := store_part (ty := 24) w4 (w.heap.size + 1) 0 Rq3 (.agg #[.slice A' m' c']) #[.slice A' m' c'] r24 infoCode1 (Nat.le_refl _) (one_code _ _ _) rfl
 have r25 := setRow_heap w4 (w.heap.size + 1) _ #[.slice A' m' c'] _ _ r24
 have hb8 := below_setRow hb7 (by omega) (g := w.heap.size + 1) #[.slice A' m' c']
 have HO2 := hide (own_other hO (g := w.heap.size + 1) (fun e => by have := (World.ownsRow.lt hO _ e).1; omega) #[.slice A' m' c'])
 clear hO hb6 hb7 r23 r24
 go_wp2
 refine bodyPost_ret (results_c8 results67 _ _ (w.heap.size + 1) 24 #[.slice A' m' c'] (0, 0) _ rfl r25 underlying24 (by kernel_rfl)) rfl ⟨_, rfl, own_weak HO2.out (by omega), hb8⟩
attribute [-go_sem] Instr.storeAt in
theorem replace_of (l : List Dg.It) (A : Option Addr) (n c : Nat) (hl : l.length = n) (hn : n ≤ 1048576) (p : Dg.Pt) (i : Nat) (hi : i < n) (y : Dg.It) (hy : l.getD i Dg.zeroI = y) (hN2 : ¬ (400 : Int) < (p.item.north.size : Int)) (hS2 : ¬ (400 : Int) < (p.item.south.size : Int)) (w : World) (hI : Its w w.heap.size A l) :
  Calls Tryz.prog 68 #[.agg (Rq5 A n c p i)] w fun e w' => ∃ v', e = .returned (.tuple #[.agg #[v'], .int .i64 0]) ∧ Own1 iLay 51 w' w.heap.size v' (l.set i { y with north := p.item.north, south := p.item.south }) ∧ Below w.heap.size w w' := by
 have hmx := hmxQ
 obtain ⟨r1, r2, hb, hs⟩ := iAlloc2 w (.cells (Rq5 A n c p i) 143) (.cells Rq3 24)
 have hil : i < l.length := by omega
 have hyi : l[i] = y := by rw [← hy]; simp [List.getD_eq_getElem?_getD, hil]
 obtain ⟨b, off, hA⟩ := hI.some hil
 subst hA
 have hI1 := hI.below hb
 have hRI := hide (show ((w.alloc (.cells (Rq6 b off n c p i) 143)).alloc (.cells Rq3 24)).rangeAt b (off + i * 7) (Rq4 y) from its_range hI1 hil y hyi)
 have HI := hide hI1; have HL := hide hl
 clear hI hI1 hyi hil hl hy
 have hcs := jC17 r1
 have c0 := hcs.1
 have ci := hcs.2.2.2.2.2.2.2.2.2.2.2.2.2.2.2.2
 clear hcs
 have h0 : (0 : Int) ≤ (i : Int) := by omega
 have h1 : (i : Int) < (n : Int) := by omega
 go_enter func68, ntmps68
 go_upto_region 1 with (fail)
 have hsz : w.heap.size + 2 ≤ ((w.alloc (.cells (Rq6 b off n c p i) 143)).alloc (.cells Rq3 24)).heap.size := by omega
 clear hs
 generalize (w.alloc (.cells (Rq6 b off n c p i) 143)).alloc (.cells Rq3 24) = W1 at *
 have hst := store_new (ty := 51) (T := 51) W1 Rq1 (Rq4 y) (by kernel_rfl) rfl (all_oneCell_toArray (iLay.one y))
 go_upto_region 2 with (with_reducible refine wpList_load_mid rfl 51 (.tmp 10) rfl b (off + i * 7) rfl _ _ hRI.out underlying51 rfl (by kernel_rfl) ?_)
 clear hst hRI c0 ci
 have r4 := heap_alloc_new W1 (.cells (Rq4 y) 51)
 have hb2 := nwB W1 (.cells (Rq4 y) 51)
 have r12 := iNext r1 hb2
 have r22 := iNext r2 hb2
 have HI2 := hide (HI.out.below (hb2.mono (by omega)))
 have hb3 := bnext hb hb2
 have hszb := (show W1.heap.size < (W1.alloc (.cells (Rq4 y) 51)).heap.size by simp)
 obtain ⟨b4, hb4⟩ : ∃ b4, b4 = W1.heap.size := ⟨_, rfl⟩
 have HB4 := hide hb4
 rw [← hb4] at r4 hsz hszb ⊢
 clear hb hb2 r1 r2 HI hb4
 generalize W1.alloc (.cells (Rq4 y) 51) = w2 at *
 clear HB4
 refine wp_region_noPanic ?_
 refine wp_region_L (fun X => X.heap[w.heap.size]? = some (.cells (Rq6 b off n c p i) 143 (0, 0))) 12 hmx ?_
 have hdr := (Below.refl w2.heap.size w2).drew
 have hS1 : (fun X : World => X.heap[w.heap.size]? = some (.cells (Rq6 b off n c p i) 143 (0, 0))) w2.drew := iNext r12 hdr
 have r22d := iNext r22 hdr
 have r4d := iNext r4 hdr
 have HI2d := hide (HI2.out.below (hdr.mono (by omega)))
 have hb3d := bnext hb3 hdr
 have hszd := Nat.lt_of_lt_of_le hszb hdr.size
 clear hdr r12 r22 r4 HI2 hb3 hszb
 generalize w2.drew = w3 at *
 refine tU 0 14 hS1 rfl ?_
 refine tU 1 14 hS1 rfl ?_
 refine tU 2 14 hS1 rfl ?_
 refine tU 3 14 hS1 rfl ?_ (by intro wS hS; have hcs := jC17 hS; have c10 := hcs.2.2.2.2.2.2.2.2.2.2.1; have c11 := hcs.2.2.2.2.2.2.2.2.2.2.2.1; clear hcs; go_simp; (try with_reducible rfl))
 refine tU 4 14 hS1 rfl ?_
 refine tU 5 14 hS1 rfl ?_
 refine tU 6 14 hS1 rfl ?_
 refine tU 7 14 hS1 rfl ?_ (by intro wS hS; have hcs := jC17 hS; have c10 := hcs.2.2.2.2.2.2.2.2.2.2.1; have c11 := hcs.2.2.2.2.2.2.2.2.2.2.2.1; clear hcs; go_simp; (try with_reducible rfl))
 refine oY 8 fun K hK => ?_
 go_simp
 refine hK.out _ _ (Or.inr hS1) ?_
 clear hK K
 try simp only [Act.put, pu]
 refine oY 9 fun K hK => ?_
 have hst := store_part (ty := 9) w3 b4 4 (Rq4 y) (.string p.item.north) #[.int .i64 y.kind, .string y.id, .string y.parent, .string y.number, .string p.item.north, .string y.south, .bool y.gone] r4d infoStr1 (by show 4 + 1 ≤ 7; decide) (one_str _) rfl
 have hS2 : (w3.setRow b4 #[.int .i64 y.kind, .string y.id, .string y.parent, .string y.number, .string p.item.north, .string y.south, .bool y.gone]).heap[w.heap.size]? = some (.cells (Rq6 b off n c p i) 143 (0, 0)) := (setRow_other w3 b4 _ _ (by omega)).trans hS1
 have r23 : (w3.setRow b4 #[.int .i64 y.kind, .string y.id, .string y.parent, .string y.number, .string p.item.north, .string y.south, .bool y.gone]).heap[w.heap.size + 1]? = some (.cells Rq3 24 (0, 0)) := (setRow_other w3 b4 _ _ (by omega)).trans r22d
 have r43 := setRow_heap w3 b4 _ #[.int .i64 y.kind, .string y.id, .string y.parent, .string y.number, .string p.item.north, .string y.south, .bool y.gone] _ _ r4d
 have HI3 := hide (its_other HI2d.out (g := b4) (by omega) #[.int .i64 y.kind, .string y.id, .string y.parent, .string y.number, .string p.item.north, .string y.south, .bool y.gone])
 have hb5 := below_setRow hb3d (by omega) (g := b4) #[.int .i64 y.kind, .string y.id, .string y.parent, .string y.number, .string p.item.north, .string y.south, .bool y.gone]
 go_simp
 clear hst hS1 r22d r4d HI2d hb3d
 generalize w3.setRow b4 #[.int .i64 y.kind, .string y.id, .string y.parent, .string y.number, .string p.item.north, .string y.south, .bool y.gone] = w4 at *
 refine hK.out _ _ (Or.inr hS2) ?_
 clear hK K
 have hS1 := hS2
 have r22d := r23
 have r4d := r43
 have HI2d := HI3
 have hb3d := hb5
 clear hS2 r23 r43 HI3 hb5
 try simp only [Act.put, pu]
 refine oY 10 fun K hK => ?_
 go_simp
 refine hK.out _ _ (Or.inr hS1) ?_
 clear hK K
 try simp only [Act.put, pu]
 refine oY 11 fun K hK => ?_
 have hst := store_part (ty := 9) w4 b4 5 #[.int .i64 y.kind, .string y.id, .string y.parent, .string y.number, .string p.item.north, .string y.south, .bool y.gone] (.string p.item.south) #[.int .i64 y.kind, .string y.id, .string y.parent, .string y.number, .string p.item.north, .string p.item.south, .bool y.gone] r4d infoStr1 (by show 5 + 1 ≤ 7; decide) (one_str _) rfl
 have hS2 : (w4.setRow b4 #[.int .i64 y.kind, .string y.id, .string y.parent, .string y.number, .string p.item.north, .string p.item.south, .bool y.gone]).heap[w.heap.size]? = some (.cells (Rq6 b off n c p i) 143 (0, 0)) := (setRow_other w4 b4 _ _ (by omega)).trans hS1
 have r23 : (w4.setRow b4 #[.int .i64 y.kind, .string y.id, .string y.parent, .string y.number, .string p.item.north, .string p.item.south, .bool y.gone]).heap[w.heap.size + 1]? = some (.cells Rq3 24 (0, 0)) := (setRow_other w4 b4 _ _ (by omega)).trans r22d
 have r43 := setRow_heap w4 b4 _ #[.int .i64 y.kind, .string y.id, .string y.parent, .string y.number, .string p.item.north, .string p.item.south, .bool y.gone] _ _ r4d
 have HI3 := hide (its_other HI2d.out (g := b4) (by omega) #[.int .i64 y.kind, .string y.id, .string y.parent, .string y.number, .string p.item.north, .string p.item.south, .bool y.gone])
 have hb5 := below_setRow hb3d (by omega) (g := b4) #[.int .i64 y.kind, .string y.id, .string y.parent, .string y.number, .string p.item.north, .string p.item.south, .bool y.gone]
 go_simp
 clear hst hS1 r22d r4d HI2d hb3d
 generalize w4.setRow b4 #[.int .i64 y.kind, .string y.id, .string y.parent, .string y.number, .string p.item.north, .string p.item.south, .bool y.gone] = w5 at *
 refine hK.out _ _ (Or.inr hS2) ?_
 clear hK K
 have hS1 := hS2
 have r22d := r23
 have r4d := r43
 have HI2d := HI3
 have hb3d := hb5
 clear hS2 r23 r43 HI3 hb5
 try simp only [Act.put, pu]
 refine dnY ?_
 have r13 := hS1
 have r23 := r22d
 have r43 := r4d
 have HI3 := HI2d
 have hb5 := hb3d
 clear hS1 r22d r4d HI2d hb3d
 obtain ⟨z0, z1, z2, z3, z4, z5, z6⟩ := iCells r43
 clear z0 z1 z2 z3 z6
 go_upto_region 5 with (fail)
 clear z4 z5
 have hR17 := hide (range_of r13 0 (Rq6 b off n c p i) rfl)
 have hR7 := hide (range_of r43 0 [.int .i64 y.kind, .string y.id, .string y.parent, .string y.number, .string p.item.north, .string p.item.south, .bool y.gone] rfl)
 go_wp2_with (first | (with_reducible refine wpList_load_mid rfl 143 (.tmp 1) rfl w.heap.size 0 rfl _ _ hR17.out underlying143 rfl (by kernel_rfl) ?_) | (with_reducible refine wpList_load_mid rfl 51 (.tmp 4) rfl b4 0 rfl _ _ hR7.out underlying51 rfl (by kernel_rfl) ?_))
 refine (with_of l (some ⟨b, off, none⟩) n c HL.out hn p i hi { y with north := p.item.north, south := p.item.south } w5 (HI3.out.more hb5.size)).mono ?_
 rintro e w4 ⟨v', rfl, hO, hb6⟩
 have hl3 := lt_of_block r43
 clear hR17 hR7 r13 r43
 obtain ⟨A', c', rfl, _, _⟩ := hO.row
 obtain ⟨m', hm'⟩ : ∃ m', (l.set i { y with north := p.item.north, south := p.item.south }).length = m' := ⟨_, rfl⟩
 rw [hm'] at hO ⊢
 clear hm'
 have r24 := iNext r23 hb6
 have hb7 := bnext hb5 hb6
 have hst := store_part (ty := 24) w4 (w.heap.size + 1) 0 Rq3 (.agg #[.slice A' m' c']) #[.slice A' m' c'] r24 infoCode1 (Nat.le_refl _) (one_code _ _ _) rfl
 have r25 := setRow_heap w4 (w.heap.size + 1) _ #[.slice A' m' c'] _ _ r24
 have hb8 := below_setRow hb7 (by omega) (g := w.heap.size + 1) #[.slice A' m' c']
 have HO2 := hide (own_other hO (g := w.heap.size + 1) (fun e => by have := (World.ownsRow.lt hO _ e).1; omega) #[.slice A' m' c'])
 clear hO hb6 hb7 r23 r24
 go_wp2
 refine bodyPost_ret (results_c8 results68 _ _ (w.heap.size + 1) 24 #[.slice A' m' c'] (0, 0) _ rfl r25 underlying24 (by kernel_rfl)) rfl ⟨_, rfl, own_weak HO2.out (by omega), hb8⟩
attribute [-go_sem] Instr.storeAt in
theorem replace_n (l : List Dg.It) (A : Option Addr) (n c : Nat) (hl : l.length = n) (_hn : n ≤ 1048576) (p : Dg.Pt) (i : Nat) (hi : i < n) (y : Dg.It) (hy : l.getD i Dg.zeroI = y) (hN2 : (400 : Int) < (p.item.north.size : Int)) (w : World) (hI : Its w w.heap.size A l) :
  Calls Tryz.prog 68 #[.agg (Rq5 A n c p i)] w fun e w' => e = .returned (.tuple #[.agg Rq3, .int .i64 2]) ∧ Below w.heap.size w w' := by
 have hmx := hmxQ
 obtain ⟨r1, r2, hb, hs⟩ := iAlloc2 w (.cells (Rq5 A n c p i) 143) (.cells Rq3 24)
 have hil : i < l.length := by omega
 have hyi : l[i] = y := by rw [← hy]; simp [List.getD_eq_getElem?_getD, hil]
 obtain ⟨b, off, hA⟩ := hI.some hil
 subst hA
 have hI1 := hI.below hb
 have hRI := hide (show ((w.alloc (.cells (Rq6 b off n c p i) 143)).alloc (.cells Rq3 24)).rangeAt b (off + i * 7) (Rq4 y) from its_range hI1 hil y hyi)
 have HI := hide hI1; have HL := hide hl
 clear hI hI1 hyi hil hl hy
 have hcs := jC17 r1
 have c0 := hcs.1
 have ci := hcs.2.2.2.2.2.2.2.2.2.2.2.2.2.2.2.2
 clear hcs
 have h0 : (0 : Int) ≤ (i : Int) := by omega
 have h1 : (i : Int) < (n : Int) := by omega
 go_enter func68, ntmps68
 go_upto_region 1 with (fail)
 have hsz : w.heap.size + 2 ≤ ((w.alloc (.cells (Rq6 b off n c p i) 143)).alloc (.cells Rq3 24)).heap.size := by omega
 clear hs
 generalize (w.alloc (.cells (Rq6 b off n c p i) 143)).alloc (.cells Rq3 24) = W1 at *
 have hst := store_new (ty := 51) (T := 51) W1 Rq1 (Rq4 y) (by kernel_rfl) rfl (all_oneCell_toArray (iLay.one y))
 go_upto_region 2 with (with_reducible refine wpList_load_mid rfl 51 (.tmp 10) rfl b (off + i * 7) rfl _ _ hRI.out underlying51 rfl (by kernel_rfl) ?_)
 clear hst hRI c0 ci
 have r4 := heap_alloc_new W1 (.cells (Rq4 y) 51)
 have hb2 := nwB W1 (.cells (Rq4 y) 51)
 have r12 := iNext r1 hb2
 have r22 := iNext r2 hb2
 have HI2 := hide (HI.out.below (hb2.mono (by omega)))
 have hb3 := bnext hb hb2
 have hszb := (show W1.heap.size < (W1.alloc (.cells (Rq4 y) 51)).heap.size by simp)
 obtain ⟨b4, hb4⟩ : ∃ b4, b4 = W1.heap.size := ⟨_, rfl⟩
 have HB4 := hide hb4
 rw [← hb4] at r4 hsz hszb ⊢
 clear hb hb2 r1 r2 HI hb4
 generalize W1.alloc (.cells (Rq4 y) 51) = w2 at *
 clear HB4
 refine wp_region_noPanic ?_
 refine wp_region_L (fun X => X.heap[w.heap.size]? = some (.cells (Rq6 b off n c p i) 143 (0, 0))) 12 hmx ?_
 have hdr := (Below.refl w2.heap.size w2).drew
 have hS1 : (fun X : World => X.heap[w.heap.size]? = some (.cells (Rq6 b off n c p i) 143 (0, 0))) w2.drew := iNext r12 hdr
 have r22d := iNext r22 hdr
 have r4d := iNext r4 hdr
 have HI2d := hide (HI2.out.below (hdr.mono (by omega)))
 have hb3d := bnext hb3 hdr
 have hszd := Nat.lt_of_lt_of_le hszb hdr.size
 clear hdr r12 r22 r4 HI2 hb3 hszb
 generalize w2.drew = w3 at *
 refine tU 0 14 hS1 rfl ?_
 refine tU 1 14 hS1 rfl ?_
 refine tU 2 14 hS1 rfl ?_
 refine tU 3 14 hS1 rfl ?_ (by intro wS hS; have hcs := jC17 hS; have c10 := hcs.2.2.2.2.2.2.2.2.2.2.1; have c11 := hcs.2.2.2.2.2.2.2.2.2.2.2.1; clear hcs; go_simp; (try with_reducible rfl))
 refine tU 4 14 hS1 rfl ?_
 refine tU 5 14 hS1 rfl ?_
 refine tU 6 14 hS1 rfl ?_
 refine tU 7 14 hS1 rfl ?_ (by intro wS hS; have hcs := jC17 hS; have c10 := hcs.2.2.2.2.2.2.2.2.2.2.1; have c11 := hcs.2.2.2.2.2.2.2.2.2.2.2.1; clear hcs; go_simp; (try with_reducible rfl))
 refine oY 8 fun K hK => ?_
 go_simp
 refine hK.out _ _ (Or.inr hS1) ?_
 clear hK K
 try simp only [Act.put, pu]
 refine oY 9 fun K hK => ?_
 have hst := store_part (ty := 9) w3 b4 4 (Rq4 y) (.string p.item.north) #[.int .i64 y.kind, .string y.id, .string y.parent, .string y.number, .string p.item.north, .string y.south, .bool y.gone] r4d infoStr1 (by show 4 + 1 ≤ 7; decide) (one_str _) rfl
 have hS2 : (w3.setRow b4 #[.int .i64 y.kind, .string y.id, .string y.parent, .string y.number, .string p.item.north, .string y.south, .bool y.gone]).heap[w.heap.size]? = some (.cells (Rq6 b off n c p i) 143 (0, 0)) := (setRow_other w3 b4 _ _ (by omega)).trans hS1
 have r23 : (w3.setRow b4 #[.int .i64 y.kind, .string y.id, .string y.parent, .string y.number, .string p.item.north, .string y.south, .bool y.gone]).heap[w.heap.size + 1]? = some (.cells Rq3 24 (0, 0)) := (setRow_other w3 b4 _ _ (by omega)).trans r22d
 have r43 := setRow_heap w3 b4 _ #[.int .i64 y.kind, .string y.id, .string y.parent, .string y.number, .string p.item.north, .string y.south, .bool y.gone] _ _ r4d
 have HI3 := hide (its_other HI2d.out (g := b4) (by omega) #[.int .i64 y.kind, .string y.id, .string y.parent, .string y.number, .string p.item.north, .string y.south, .bool y.gone])
 have hb5 := below_setRow hb3d (by omega) (g := b4) #[.int .i64 y.kind, .string y.id, .string y.parent, .string y.number, .string p.item.north, .string y.south, .bool y.gone]
 go_simp
 clear hst hS1 r22d r4d HI2d hb3d
 generalize w3.setRow b4 #[.int .i64 y.kind, .string y.id, .string y.parent, .string y.number, .string p.item.north, .string y.south, .bool y.gone] = w4 at *
 refine hK.out _ _ (Or.inr hS2) ?_
 clear hK K
 have hS1 := hS2
 have r22d := r23
 have r4d := r43
 have HI2d := HI3
 have hb3d := hb5
 clear hS2 r23 r43 HI3 hb5
 try simp only [Act.put, pu]
 refine oY 10 fun K hK => ?_
 go_simp
 refine hK.out _ _ (Or.inr hS1) ?_
 clear hK K
 try simp only [Act.put, pu]
 refine oY 11 fun K hK => ?_
 have hst := store_part (ty := 9) w4 b4 5 #[.int .i64 y.kind, .string y.id, .string y.parent, .string y.number, .string p.item.north, .string y.south, .bool y.gone] (.string p.item.south) #[.int .i64 y.kind, .string y.id, .string y.parent, .string y.number, .string p.item.north, .string p.item.south, .bool y.gone] r4d infoStr1 (by show 5 + 1 ≤ 7; decide) (one_str _) rfl
 have hS2 : (w4.setRow b4 #[.int .i64 y.kind, .string y.id, .string y.parent, .string y.number, .string p.item.north, .string p.item.south, .bool y.gone]).heap[w.heap.size]? = some (.cells (Rq6 b off n c p i) 143 (0, 0)) := (setRow_other w4 b4 _ _ (by omega)).trans hS1
 have r23 : (w4.setRow b4 #[.int .i64 y.kind, .string y.id, .string y.parent, .string y.number, .string p.item.north, .string p.item.south, .bool y.gone]).heap[w.heap.size + 1]? = some (.cells Rq3 24 (0, 0)) := (setRow_other w4 b4 _ _ (by omega)).trans r22d
 have r43 := setRow_heap w4 b4 _ #[.int .i64 y.kind, .string y.id, .string y.parent, .string y.number, .string p.item.north, .string p.item.south, .bool y.gone] _ _ r4d
 have HI3 := hide (its_other HI2d.out (g := b4) (by omega) #[.int .i64 y.kind, .string y.id, .string y.parent, .string y.number, .string p.item.north, .string p.item.south, .bool y.gone])
 have hb5 := below_setRow hb3d (by omega) (g := b4) #[.int .i64 y.kind, .string y.id, .string y.parent, .string y.number, .string p.item.north, .string p.item.south, .bool y.gone]
 go_simp
 clear hst hS1 r22d r4d HI2d hb3d
 generalize w4.setRow b4 #[.int .i64 y.kind, .string y.id, .string y.parent, .string y.number, .string p.item.north, .string p.item.south, .bool y.gone] = w5 at *
 refine hK.out _ _ (Or.inr hS2) ?_
 clear hK K
 have hS1 := hS2
 have r22d := r23
 have r4d := r43
 have HI2d := HI3
 have hb3d := hb5
 clear hS2 r23 r43 HI3 hb5
 try simp only [Act.put, pu]
 refine dnY ?_
 have r13 := hS1
 have r23 := r22d
 have r43 := r4d
 have HI3 := HI2d
 have hb5 := hb3d
 clear hS1 r22d r4d HI2d hb3d
 obtain ⟨z0, z1, z2, z3, z4, z5, z6⟩ := iCells r43
 clear z0 z1 z2 z3 z6
 have hst := store_part (ty := 24) w5 (w.heap.size + 1) 0 Rq3 (.agg Rq3) Rq3 r23 infoCode1 (Nat.le_refl _) (one_code _ _ _) rfl
 have r25 := setRow_heap w5 (w.heap.size + 1) _ Rq3 _ _ r23
 have hb8 := below_setRow hb5 (by omega) (g := w.heap.size + 1) Rq3
 clear r13 r23 r43 HI3 hb5
 go_wp2
 refine bodyPost_ret (results_c8 results68 _ _ (w.heap.size + 1) 24 #[.slice none 0 0] (0, 0) _ rfl r25 underlying24 (by kernel_rfl)) rfl ⟨rfl, hb8⟩
attribute [-go_sem] Instr.storeAt in
theorem replace_s (l : List Dg.It) (A : Option Addr) (n c : Nat) (hl : l.length = n) (_hn : n ≤ 1048576) (p : Dg.Pt) (i : Nat) (hi : i < n) (y : Dg.It) (hy : l.getD i Dg.zeroI = y) (hN2 : ¬ (400 : Int) < (p.item.north.size : Int)) (hS2 : (400 : Int) < (p.item.south.size : Int)) (w : World) (hI : Its w w.heap.size A l) :
  Calls Tryz.prog 68 #[.agg (Rq5 A n c p i)] w fun e w' => e = .returned (.tuple #[.agg Rq3, .int .i64 2]) ∧ Below w.heap.size w w' := by
 have hmx := hmxQ
 obtain ⟨r1, r2, hb, hs⟩ := iAlloc2 w (.cells (Rq5 A n c p i) 143) (.cells Rq3 24)
 have hil : i < l.length := by omega
 have hyi : l[i] = y := by rw [← hy]; simp [List.getD_eq_getElem?_getD, hil]
 obtain ⟨b, off, hA⟩ := hI.some hil
 subst hA
 have hI1 := hI.below hb
 have hRI := hide (show ((w.alloc (.cells (Rq6 b off n c p i) 143)).alloc (.cells Rq3 24)).rangeAt b (off + i * 7) (Rq4 y) from its_range hI1 hil y hyi)
 have HI := hide hI1; have HL := hide hl
 clear hI hI1 hyi hil hl hy
 have hcs := jC17 r1
 have c0 := hcs.1
 have ci := hcs.2.2.2.2.2.2.2.2.2.2.2.2.2.2.2.2
 clear hcs
 have h0 : (0 : Int) ≤ (i : Int) := by omega
 have h1 : (i : Int) < (n : Int) := by omega
 go_enter func68, ntmps68
 go_upto_region 1 with (fail)
 have hsz : w.heap.size + 2 ≤ ((w.alloc (.cells (Rq6 b off n c p i) 143)).alloc (.cells Rq3 24)).heap.size := by omega
 clear hs
 generalize (w.alloc (.cells (Rq6 b off n c p i) 143)).alloc (.cells Rq3 24) = W1 at *
 have hst := store_new (ty := 51) (T := 51) W1 Rq1 (Rq4 y) (by kernel_rfl) rfl (all_oneCell_toArray (iLay.one y))
 go_upto_region 2 with (with_reducible refine wpList_load_mid rfl 51 (.tmp 10) rfl b (off + i * 7) rfl _ _ hRI.out underlying51 rfl (by kernel_rfl) ?_)
 clear hst hRI c0 ci
 have r4 := heap_alloc_new W1 (.cells (Rq4 y) 51)
 have hb2 := nwB W1 (.cells (Rq4 y) 51)
 have r12 := iNext r1 hb2
 have r22 := iNext r2 hb2
 have HI2 := hide (HI.out.below (hb2.mono (by omega)))
 have hb3 := bnext hb hb2
 have hszb := (show W1.heap.size < (W1.alloc (.cells (Rq4 y) 51)).heap.size by simp)
 obtain ⟨b4, hb4⟩ : ∃ b4, b4 = W1.heap.size := ⟨_, rfl⟩
 have HB4 := hide hb4
 rw [← hb4] at r4 hsz hszb ⊢
 clear hb hb2 r1 r2 HI hb4
 generalize W1.alloc (.cells (Rq4 y) 51) = w2 at *
 clear HB4
 refine wp_region_noPanic ?_
 refine wp_region_L (fun X => X.heap[w.heap.size]? = some (.cells (Rq6 b off n c p i) 143 (0, 0))) 12 hmx ?_
 have hdr := (Below.refl w2.heap.size w2).drew
 have hS1 : (fun X : World => X.heap[w.heap.size]? = some (.cells (Rq6 b off n c p i) 143 (0, 0))) w2.drew := iNext r12 hdr
 have r22d := iNext r22 hdr
 have r4d := iNext r4 hdr
 have HI2d := hide (HI2.out.below (hdr.mono (by omega)))
 have hb3d := bnext hb3 hdr
 have hszd := Nat.lt_of_lt_of_le hszb hdr.size
 clear hdr r12 r22 r4 HI2 hb3 hszb
 generalize w2.drew = w3 at *
 refine tU 0 14 hS1 rfl ?_
 refine tU 1 14 hS1 rfl ?_
 refine tU 2 14 hS1 rfl ?_
 refine tU 3 14 hS1 rfl ?_ (by intro wS hS; have hcs := jC17 hS; have c10 := hcs.2.2.2.2.2.2.2.2.2.2.1; have c11 := hcs.2.2.2.2.2.2.2.2.2.2.2.1; clear hcs; go_simp; (try with_reducible rfl))
 refine tU 4 14 hS1 rfl ?_
 refine tU 5 14 hS1 rfl ?_
 refine tU 6 14 hS1 rfl ?_
 refine tU 7 14 hS1 rfl ?_ (by intro wS hS; have hcs := jC17 hS; have c10 := hcs.2.2.2.2.2.2.2.2.2.2.1; have c11 := hcs.2.2.2.2.2.2.2.2.2.2.2.1; clear hcs; go_simp; (try with_reducible rfl))
 refine oY 8 fun K hK => ?_
 go_simp
 refine hK.out _ _ (Or.inr hS1) ?_
 clear hK K
 try simp only [Act.put, pu]
 refine oY 9 fun K hK => ?_
 have hst := store_part (ty := 9) w3 b4 4 (Rq4 y) (.string p.item.north) #[.int .i64 y.kind, .string y.id, .string y.parent, .string y.number, .string p.item.north, .string y.south, .bool y.gone] r4d infoStr1 (by show 4 + 1 ≤ 7; decide) (one_str _) rfl
 have hS2 : (w3.setRow b4 #[.int .i64 y.kind, .string y.id, .string y.parent, .string y.number, .string p.item.north, .string y.south, .bool y.gone]).heap[w.heap.size]? = some (.cells (Rq6 b off n c p i) 143 (0, 0)) := (setRow_other w3 b4 _ _ (by omega)).trans hS1
 have r23 : (w3.setRow b4 #[.int .i64 y.kind, .string y.id, .string y.parent, .string y.number, .string p.item.north, .string y.south, .bool y.gone]).heap[w.heap.size + 1]? = some (.cells Rq3 24 (0, 0)) := (setRow_other w3 b4 _ _ (by omega)).trans r22d
 have r43 := setRow_heap w3 b4 _ #[.int .i64 y.kind, .string y.id, .string y.parent, .string y.number, .string p.item.north, .string y.south, .bool y.gone] _ _ r4d
 have HI3 := hide (its_other HI2d.out (g := b4) (by omega) #[.int .i64 y.kind, .string y.id, .string y.parent, .string y.number, .string p.item.north, .string y.south, .bool y.gone])
 have hb5 := below_setRow hb3d (by omega) (g := b4) #[.int .i64 y.kind, .string y.id, .string y.parent, .string y.number, .string p.item.north, .string y.south, .bool y.gone]
 go_simp
 clear hst hS1 r22d r4d HI2d hb3d
 generalize w3.setRow b4 #[.int .i64 y.kind, .string y.id, .string y.parent, .string y.number, .string p.item.north, .string y.south, .bool y.gone] = w4 at *
 refine hK.out _ _ (Or.inr hS2) ?_
 clear hK K
 have hS1 := hS2
 have r22d := r23
 have r4d := r43
 have HI2d := HI3
 have hb3d := hb5
 clear hS2 r23 r43 HI3 hb5
 try simp only [Act.put, pu]
 refine oY 10 fun K hK => ?_
 go_simp
 refine hK.out _ _ (Or.inr hS1) ?_
 clear hK K
 try simp only [Act.put, pu]
 refine oY 11 fun K hK => ?_
 have hst := store_part (ty := 9) w4 b4 5 #[.int .i64 y.kind, .string y.id, .string y.parent, .string y.number, .string p.item.north, .string y.south, .bool y.gone] (.string p.item.south) #[.int .i64 y.kind, .string y.id, .string y.parent, .string y.number, .string p.item.north, .string p.item.south, .bool y.gone] r4d infoStr1 (by show 5 + 1 ≤ 7; decide) (one_str _) rfl
 have hS2 : (w4.setRow b4 #[.int .i64 y.kind, .string y.id, .string y.parent, .string y.number, .string p.item.north, .string p.item.south, .bool y.gone]).heap[w.heap.size]? = some (.cells (Rq6 b off n c p i) 143 (0, 0)) := (setRow_other w4 b4 _ _ (by omega)).trans hS1
 have r23 : (w4.setRow b4 #[.int .i64 y.kind, .string y.id, .string y.parent, .string y.number, .string p.item.north, .string p.item.south, .bool y.gone]).heap[w.heap.size + 1]? = some (.cells Rq3 24 (0, 0)) := (setRow_other w4 b4 _ _ (by omega)).trans r22d
 have r43 := setRow_heap w4 b4 _ #[.int .i64 y.kind, .string y.id, .string y.parent, .string y.number, .string p.item.north, .string p.item.south, .bool y.gone] _ _ r4d
 have HI3 := hide (its_other HI2d.out (g := b4) (by omega) #[.int .i64 y.kind, .string y.id, .string y.parent, .string y.number, .string p.item.north, .string p.item.south, .bool y.gone])
 have hb5 := below_setRow hb3d (by omega) (g := b4) #[.int .i64 y.kind, .string y.id, .string y.parent, .string y.number, .string p.item.north, .string p.item.south, .bool y.gone]
 go_simp
 clear hst hS1 r22d r4d HI2d hb3d
 generalize w4.setRow b4 #[.int .i64 y.kind, .string y.id, .string y.parent, .string y.number, .string p.item.north, .string p.item.south, .bool y.gone] = w5 at *
 refine hK.out _ _ (Or.inr hS2) ?_
 clear hK K
 have hS1 := hS2
 have r22d := r23
 have r4d := r43
 have HI2d := HI3
 have hb3d := hb5
 clear hS2 r23 r43 HI3 hb5
 try simp only [Act.put, pu]
 refine dnY ?_
 have r13 := hS1
 have r23 := r22d
 have r43 := r4d
 have HI3 := HI2d
 have hb5 := hb3d
 clear hS1 r22d r4d HI2d hb3d
 obtain ⟨z0, z1, z2, z3, z4, z5, z6⟩ := iCells r43
 clear z0 z1 z2 z3 z6
 have hst := store_part (ty := 24) w5 (w.heap.size + 1) 0 Rq3 (.agg Rq3) Rq3 r23 infoCode1 (Nat.le_refl _) (one_code _ _ _) rfl
 have r25 := setRow_heap w5 (w.heap.size + 1) _ Rq3 _ _ r23
 have hb8 := below_setRow hb5 (by omega) (g := w.heap.size + 1) Rq3
 clear r13 r23 r43 HI3 hb5
 go_wp2
 refine bodyPost_ret (results_c8 results68 _ _ (w.heap.size + 1) 24 #[.slice none 0 0] (0, 0) _ rfl r25 underlying24 (by kernel_rfl)) rfl ⟨rfl, hb8⟩
attribute [-go_sem] Instr.storeAt in
theorem put_a (l : List Dg.It) (A : Option Addr) (n c : Nat) (hl : l.length = n) (hn : n ≤ 1048576) (p : Dg.Pt) (ix : Int) (hw : ∀ x ∈ l, ItW x) (hv : Dg.validC l = true) (m : List Dg.It) (k g2 c2 : Nat) (sp2 : List Value) (hm : m.length = k) (hk : 0 < k) (hnk : n + k ≤ 1048576) (i K : Nat) (hA : p.after.toList.isEmpty = false) (hfi : findX l p.after = (i : Int)) (hK : Dg.belowN l p.after = K) (hle : i + (1 + K) ≤ n) (w : World) (hI : Its w w.heap.size A l) (hg2 : w.heap[g2]? = some (.cells (iLay.flat m ++ sp2).toArray 51 (0, 0))) :
  Calls Tryz.prog 90 #[.agg (Rq5 A n c p ix), .slice (some ⟨g2, 0, none⟩) k c2] w fun e w' => ∃ v', e = .returned (.agg #[v']) ∧ Own1 iLay 51 w' w.heap.size v' (l.take (i + (1 + K)) ++ (m ++ l.drop (i + (1 + K)))) ∧ Below w.heap.size w w' := by
 obtain ⟨r1, r2, hb, hs⟩ := iAlloc2 w (.cells (Rq5 A n c p ix) 143) (.cells Rq3 24)
 have hl2 := lt_of_block hg2
 have hg22 := iNext hg2 hb
 have HI := hide (hI.keep hb); have HL := hide hl; have HM := hide hm; have HS := hide hs
 clear hI hl hm hs hg2
 have HFI := hide hfi; have HK := hide hK; have HW := hide hw; have HV := hide hv
 clear hfi hK hw hv
 have hcs := jC17 r1
 have c0 := hcs.1
 have c3 := hcs.2.2.1
 have c4 := hcs.2.2.2.1
 have c4 := hcs.2.2.2.2.1
 clear hcs
 go_enter func90, ntmps90
 go_upto_region 3 with (fail)
 generalize (w.alloc (.cells (Rq5 A n c p ix) 143)).alloc (.cells Rq3 24) = W1 at *
 clear c0 c3 c4
 have HR1 := hide (fun (d : Nat) (os : Array Obj) => range_of ((below_regrown W1 d os).block _ (lt_of_block r1) |>.trans r1) 0 (Rq5 A n c p ix) rfl)
 have k0 := fun (d : Nat) (os : Array Obj) => (jC17 ((below_regrown W1 d os).block _ (lt_of_block r1) |>.trans r1)).1
 have k4 := fun (d : Nat) (os : Array Obj) => (jC17 ((below_regrown W1 d os).block _ (lt_of_block r1) |>.trans r1)).2.2.2.2.1
 have q1 := fun (d : Nat) (os : Array Obj) => Calls.regrown_of (Code.find_of l A n c HL.out hn p.after (grow (redrawn W1 d) os) (HI.out.keep (below_regrown W1 d os)) (i : Int) HFI.out)
 have q2 := fun (d : Nat) (os : Array Obj) => Calls.regrown_of (size_of l A n c HL.out hn p ix HW.out HV.out p.after (grow (redrawn W1 d) os) (HI.out.keep (below_regrown W1 d os)) K HK.out)
 have Q1 := hide q1; have Q2 := hide q2; clear q1 q2
 have hwr : IntKind.i64.wrap ((i : Int) + ((1 + K : Nat) : Int)) = ((i + (1 + K) : Nat) : Int) := by rw [IntKind.wrap_i64]; omega
 have HWR := hide hwr
 clear hwr
 refine wp_region_quiet_below (by kernel_rfl) (by decide +kernel) ?_
 repeat (first | go_big_quiet_step (fail) | quiet_step (fail))
 (first | go_big_quiet_step (exact Q1.out _ _) | quiet_step (exact Q1.out _ _))
 repeat (first | go_big_quiet_step (fail) | quiet_step (fail))
 (refine wpQuiet_step (fun K hK => ?_); rw [if_pos (by rfl)]; refine quiet_load_mid 143 (.tmp 2) rfl w.heap.size 0 rfl _ _ (fun _ ⟨q, e⟩ => e ▸ HR1.out q.d q.os) underlying143 rfl (by kernel_rfl) ?_; refine hK _ ?_; clear hK K)
 repeat (first | go_big_quiet_step (fail) | quiet_step (fail))
 (first | go_big_quiet_step (exact Q2.out _ _) | quiet_step (exact Q2.out _ _))
 have hwr := HWR.out
 repeat (first | go_big_quiet_step (fail) | quiet_step (fail))
 refine wpQuiet_nil ?_
 intro _ hw2
 obtain ⟨⟨dq, osq⟩, hw3⟩ := hw2
 subst hw3
 clear hwr HWR k0 k4 HR1 Q1 Q2
 have hbq := below_regrown W1 dq osq
 have r12 := iNext r1 hbq
 have r22 := iNext r2 hbq
 have hg23 := iNext hg22 hbq
 have HI2 := hide (HI.out.keep hbq)
 have hb2 := bnext hb hbq
 have hsz2 : w.heap.size + 2 ≤ (grow (redrawn W1 dq) osq).heap.size := by have := hbq.size; have := HS.out; omega
 clear hbq hb r1 r2 hg22 HI
 generalize grow (redrawn W1 dq) osq = w2 at *
 obtain ⟨K0, hK0⟩ : ∃ K0, K0 = i + (1 + K) := ⟨_, rfl⟩
 have hKi : (i : Int) + (1 + (K : Int)) = (K0 : Int) := by omega
 rw [hKi]
 clear hKi
 have HK0 := hide hK0
 have hKn : K0 ≤ n := by omega
 clear hK0
 have c0 := (jC17 r12).1
 go_wp2_with fail
 refine (cloneI_any A n c l w2 HL.out (by omega) HI2.out).mono ?_
 rintro e w3 ⟨v1, rfl, hO, hb3⟩
 clear c0
 have r23 := iNext r22 hb3
 have hg24 := iNext hg23 hb3
 have hb4 := bnext hb2 hb3
 have hlt2 : g2 < w2.heap.size := by omega
 obtain ⟨A1, c1, hv1, _, _⟩ := hO.row
 have hvh := HL.out
 rw [hvh] at hv1
 clear hvh
 subst hv1
 go_wp2_with fail
 have hin := insertI_any (.slice A1 n c1) l m K0 w2.heap.size g2 c2 sp2 w3 hO hg24 hlt2 hb3.size (by rw [HL.out]; exact hKn) (by rw [HM.out]; exact hk) (by rw [HL.out, HM.out]; omega)
 rw [HM.out] at hin
 refine hin.mono ?_
 rintro e w4 ⟨v2, rfl, hO2, hb5⟩
 clear hin hO
 obtain ⟨A2, c2', hv2, _, _⟩ := hO2.row
 obtain ⟨m', hm'⟩ : ∃ m', (l.take K0 ++ (m ++ l.drop K0)).length = m' := ⟨_, rfl⟩
 rw [hm'] at hv2
 clear hm'
 subst hv2
 have r24 : w4.heap[w.heap.size + 1]? = some (.cells Rq3 24 (0, 0)) := (hb5.block _ (by omega)).trans r23
 have hb6 : Below w.heap.size w w4 := hb4.trans (hb5.mono (by omega))
 have hst := store_part (ty := 24) w4 (w.heap.size + 1) 0 Rq3 (.agg #[.slice A2 m' c2']) #[.slice A2 m' c2'] r24 infoCode1 (Nat.le_refl _) (one_code _ _ _) rfl
 have r25 := setRow_heap w4 (w.heap.size + 1) _ #[.slice A2 m' c2'] _ _ r24
 have hb8 := below_setRow hb6 (by omega) (g := w.heap.size + 1) #[.slice A2 m' c2']
 have HO2 := hide (own_other hO2 (g := w.heap.size + 1) (fun e => by have := (World.ownsRow.lt hO2 _ e).1; omega) #[.slice A2 m' c2'])
 clear hO2 hb5 hb6 r23 r24 hb4 hb3 hg24 hg23 r12 r22 HI2
 go_wp2
 rw [HK0.out] at HO2
 refine bodyPost_ret (results_cell_row (P := Tryz.prog) results90 _ _ (w.heap.size + 1) 24 #[.slice A2 m' c2'] (0, 0) _ rfl r25 underlying24 rfl (by kernel_rfl)) rfl ⟨_, rfl, ?_, hb8⟩
 have h9 := HO2.out
 exact own_weak h9 (by omega)
attribute [-go_sem] Instr.storeAt in
theorem put_b (l : List Dg.It) (A : Option Addr) (n c : Nat) (hl : l.length = n) (hn : n ≤ 1048576) (p : Dg.Pt) (ix : Int)  (m : List Dg.It) (k g2 c2 : Nat) (sp2 : List Value) (hm : m.length = k) (hk : 0 < k) (hnk : n + k ≤ 1048576) (i : Nat) (hA : p.after.toList.isEmpty = true) (hP : p.parent.toList.isEmpty = false) (hfi : findX l p.parent = (i : Int)) (hle : i + 1 ≤ n) (w : World) (hI : Its w w.heap.size A l) (hg2 : w.heap[g2]? = some (.cells (iLay.flat m ++ sp2).toArray 51 (0, 0))) :
  Calls Tryz.prog 90 #[.agg (Rq5 A n c p ix), .slice (some ⟨g2, 0, none⟩) k c2] w fun e w' => ∃ v', e = .returned (.agg #[v']) ∧ Own1 iLay 51 w' w.heap.size v' (l.take (i + 1) ++ (m ++ l.drop (i + 1))) ∧ Below w.heap.size w w' := by
 obtain ⟨r1, r2, hb, hs⟩ := iAlloc2 w (.cells (Rq5 A n c p ix) 143) (.cells Rq3 24)
 have hl2 := lt_of_block hg2
 have hg22 := iNext hg2 hb
 have HI := hide (hI.keep hb); have HL := hide hl; have HM := hide hm; have HS := hide hs
 clear hI hl hm hs hg2
 have HFI := hide hfi
 clear hfi
 have hcs := jC17 r1
 have c0 := hcs.1
 have c3 := hcs.2.2.1
 have c4 := hcs.2.2.2.1
 have c4 := hcs.2.2.2.2.1
 clear hcs
 go_enter func90, ntmps90
 go_wp2_with fail
 generalize (w.alloc (.cells (Rq5 A n c p ix) 143)).alloc (.cells Rq3 24) = W1 at *
 refine (Code.find_of l A n c HL.out hn p.parent W1 HI.out (i : Int) HFI.out).mono ?_
 rintro e w2 ⟨rfl, hbq⟩
 clear c0 c3 c4
 have r12 := iNext r1 hbq
 have r22 := iNext r2 hbq
 have hg23 := iNext hg22 hbq
 have HI2 := hide (HI.out.keep hbq)
 have hb2 := bnext hb hbq
 have hsz2 : w.heap.size + 2 ≤ w2.heap.size := by have := hbq.size; have := HS.out; omega
 clear hbq hb r1 r2 hg22 HI
 obtain ⟨K0, hK0⟩ : ∃ K0, K0 = i + 1 := ⟨_, rfl⟩
 have HK0 := hide hK0
 have hKn : K0 ≤ n := by omega
 have hKi : (i : Int) + 1 = (K0 : Int) := by omega
 clear hK0
 have c0 := (jC17 r12).1
 go_wp2_with fail
 refine (cloneI_any A n c l w2 HL.out (by omega) HI2.out).mono ?_
 rintro e w3 ⟨v1, rfl, hO, hb3⟩
 clear c0
 have r23 := iNext r22 hb3
 have hg24 := iNext hg23 hb3
 have hb4 := bnext hb2 hb3
 have hlt2 : g2 < w2.heap.size := by omega
 obtain ⟨A1, c1, hv1, _, _⟩ := hO.row
 have hvh := HL.out
 rw [hvh] at hv1
 clear hvh
 subst hv1
 go_wp2_with fail
 have hin := insertI_any (.slice A1 n c1) l m K0 w2.heap.size g2 c2 sp2 w3 hO hg24 hlt2 hb3.size (by rw [HL.out]; exact hKn) (by rw [HM.out]; exact hk) (by rw [HL.out, HM.out]; omega)
 rw [HM.out] at hin
 refine hin.mono ?_
 rintro e w4 ⟨v2, rfl, hO2, hb5⟩
 clear hin hO
 obtain ⟨A2, c2', hv2, _, _⟩ := hO2.row
 obtain ⟨m', hm'⟩ : ∃ m', (l.take K0 ++ (m ++ l.drop K0)).length = m' := ⟨_, rfl⟩
 rw [hm'] at hv2
 clear hm'
 subst hv2
 have r24 : w4.heap[w.heap.size + 1]? = some (.cells Rq3 24 (0, 0)) := (hb5.block _ (by omega)).trans r23
 have hb6 : Below w.heap.size w w4 := hb4.trans (hb5.mono (by omega))
 have hst := store_part (ty := 24) w4 (w.heap.size + 1) 0 Rq3 (.agg #[.slice A2 m' c2']) #[.slice A2 m' c2'] r24 infoCode1 (Nat.le_refl _) (one_code _ _ _) rfl
 have r25 := setRow_heap w4 (w.heap.size + 1) _ #[.slice A2 m' c2'] _ _ r24
 have hb8 := below_setRow hb6 (by omega) (g := w.heap.size + 1) #[.slice A2 m' c2']
 have HO2 := hide (own_other hO2 (g := w.heap.size + 1) (fun e => by have := (World.ownsRow.lt hO2 _ e).1; omega) #[.slice A2 m' c2'])
 clear hO2 hb5 hb6 r23 r24 hb4 hb3 hg24 hg23 r12 r22 HI2
 go_wp2
 rw [HK0.out] at HO2
 refine bodyPost_ret (results_cell_row (P := Tryz.prog) results90 _ _ (w.heap.size + 1) 24 #[.slice A2 m' c2'] (0, 0) _ rfl r25 underlying24 rfl (by kernel_rfl)) rfl ⟨_, rfl, ?_, hb8⟩
 have h9 := HO2.out
 exact own_weak h9 (by omega)
attribute [-go_sem] Instr.storeAt in
theorem put_c (l : List Dg.It) (A : Option Addr) (n c : Nat) (hl : l.length = n) (hn : n ≤ 1048576) (p : Dg.Pt) (ix : Int)  (m : List Dg.It) (k g2 c2 : Nat) (sp2 : List Value) (hm : m.length = k) (hk : 0 < k) (hnk : n + k ≤ 1048576) (hA : p.after.toList.isEmpty = true) (hP : p.parent.toList.isEmpty = true) (w : World) (hI : Its w w.heap.size A l) (hg2 : w.heap[g2]? = some (.cells (iLay.flat m ++ sp2).toArray 51 (0, 0))) :
  Calls Tryz.prog 90 #[.agg (Rq5 A n c p ix), .slice (some ⟨g2, 0, none⟩) k c2] w fun e w' => ∃ v', e = .returned (.agg #[v']) ∧ Own1 iLay 51 w' w.heap.size v' (l.take 0 ++ (m ++ l.drop 0)) ∧ Below w.heap.size w w' := by
 obtain ⟨r1, r2, hb, hs⟩ := iAlloc2 w (.cells (Rq5 A n c p ix) 143) (.cells Rq3 24)
 have hl2 := lt_of_block hg2
 have hg22 := iNext hg2 hb
 have HI := hide (hI.keep hb); have HL := hide hl; have HM := hide hm; have HS := hide hs
 clear hI hl hm hs hg2
 have hcs := jC17 r1
 have c0 := hcs.1
 have c3 := hcs.2.2.1
 have c4 := hcs.2.2.2.1
 have c4 := hcs.2.2.2.2.1
 clear hcs
 go_enter func90, ntmps90
 go_upto_region 6 with (fail)
 generalize (w.alloc (.cells (Rq5 A n c p ix) 143)).alloc (.cells Rq3 24) = w2 at *
 clear c0 c3 c4
 have r12 := r1
 have r22 := r2
 have hg23 := hg22
 have HI2 := HI
 have hb2 := hb
 have hsz2 : w.heap.size + 2 ≤ w2.heap.size := by have := HS.out; omega
 clear hb r1 r2 hg22 HI
 obtain ⟨K0, hK0⟩ : ∃ K0, K0 = (0 : Nat) := ⟨_, rfl⟩
 have hKn : K0 ≤ n := by omega
 have HK0 := hide hK0
 clear hK0
 have c0 := (jC17 r12).1
 go_wp2_with fail
 refine (cloneI_any A n c l w2 HL.out (by omega) HI2.out).mono ?_
 rintro e w3 ⟨v1, rfl, hO, hb3⟩
 clear c0
 have r23 := iNext r22 hb3
 have hg24 := iNext hg23 hb3
 have hb4 := bnext hb2 hb3
 have hlt2 : g2 < w2.heap.size := by omega
 obtain ⟨A1, c1, hv1, _, _⟩ := hO.row
 have hvh := HL.out
 rw [hvh] at hv1
 clear hvh
 subst hv1
 go_wp2_with fail
 have hin := insertI_any (.slice A1 n c1) l m K0 w2.heap.size g2 c2 sp2 w3 hO hg24 hlt2 hb3.size (by rw [HL.out]; exact hKn) (by rw [HM.out]; exact hk) (by rw [HL.out, HM.out]; omega)
 rw [HM.out] at hin
 rw [HK0.out] at hin
 rw [show ((0 : Nat) : Int) = (0 : Int) from rfl] at hin
 refine hin.mono ?_
 rintro e w4 ⟨v2, rfl, hO2, hb5⟩
 clear hin hO
 obtain ⟨A2, c2', hv2, _, _⟩ := hO2.row
 obtain ⟨m', hm'⟩ : ∃ m', (l.take 0 ++ (m ++ l.drop 0)).length = m' := ⟨_, rfl⟩
 rw [hm'] at hv2
 clear hm'
 subst hv2
 have r24 : w4.heap[w.heap.size + 1]? = some (.cells Rq3 24 (0, 0)) := (hb5.block _ (by omega)).trans r23
 have hb6 : Below w.heap.size w w4 := hb4.trans (hb5.mono (by omega))
 have hst := store_part (ty := 24) w4 (w.heap.size + 1) 0 Rq3 (.agg #[.slice A2 m' c2']) #[.slice A2 m' c2'] r24 infoCode1 (Nat.le_refl _) (one_code _ _ _) rfl
 have r25 := setRow_heap w4 (w.heap.size + 1) _ #[.slice A2 m' c2'] _ _ r24
 have hb8 := below_setRow hb6 (by omega) (g := w.heap.size + 1) #[.slice A2 m' c2']
 have HO2 := hide (own_other hO2 (g := w.heap.size + 1) (fun e => by have := (World.ownsRow.lt hO2 _ e).1; omega) #[.slice A2 m' c2'])
 clear hO2 hb5 hb6 r23 r24 hb4 hb3 hg24 hg23 r12 r22 HI2
 go_wp2
 refine bodyPost_ret (results_cell_row (P := Tryz.prog) results90 _ _ (w.heap.size + 1) 24 #[.slice A2 m' c2'] (0, 0) _ rfl r25 underlying24 rfl (by kernel_rfl)) rfl ⟨_, rfl, ?_, hb8⟩
 have h9 := HO2.out
 exact own_weak h9 (by omega)
namespace Dg
theorem itemA_at {l : List It} {d : ByteArray} {i : Nat} (h : idxI l d = some i) : ∃ hi : i < l.length, l[i].id = d ∧ itemA l d = l[i] := by
 obtain ⟨hi, e⟩ := idxI_some h
 refine ⟨hi, e, ?_⟩
 unfold itemA
 rw [h]
 simp only
 rw [List.getD_eq_getElem?_getD, List.getElem?_eq_getElem hi, Option.getD_some]
theorem itemA_some {l : List It} {d : ByteArray} (h : (itemA l d).kind ≠ 0) : ∃ i, idxI l d = some i := by
 cases hi : idxI l d with
 | some i => exact ⟨i, rfl⟩
 | none =>
  unfold itemA at h
  rw [hi] at h
  exact absurd rfl h
theorem exists_iff (l : List It) (p : Pt) : existsP l p = true ↔ (p.parent = nil8 ∨ (itemA l p.parent).kind = 1) ∧ (p.after = nil8 ∨ ((itemA l p.after).kind ≠ 0 ∧ (itemA l p.after).parent = p.parent)) := by
 unfold existsP
 simp only [Bool.and_eq_true, Bool.or_eq_true, decide_eq_true_eq, Bool.not_eq_true', decide_eq_false_iff_not]
theorem tree_at {l : List It} (hv : validC l = true) {i : Nat} (hi : i < l.length) : i + belowN l l[i].id < l.length ∧ (0 < belowN l l[i].id → l[i].kind = 1) ∧ treeT l[i] ((l.drop (i + 1)).take (belowN l l[i].id)) ∧ (∀ h : i + belowN l l[i].id + 1 < l.length, l[i + belowN l l[i].id + 1].parent ∉ (l[i] :: (l.drop (i + 1)).take (belowN l l[i].id)).map It.id) ∧
  ∀ k, k < l.length → ∀ o, (visits l)[k]? = some o → (l[i].id ∈ o ↔ i < k ∧ k ≤ i + belowN l l[i].id) := by
 obtain ⟨m, h1, h2, h3, h4, h5⟩ := subtree hv hi
 have e := belowN_tree hv hi h1 h5
 rw [e]
 exact ⟨h1, h2, h3, h4, h5⟩
theorem place_ok {l : List It} (hv : validC l = true) {p : Pt} (he : existsP l p = true) :
  (∃ s n, goW wk0 (l.take (placeP l p)) = some s ∧ kOf s.op p.parent = some n ∧ shallow s.op n (l.drop (placeP l p))) ∧
  ∀ x, kids (l.take (placeP l p)) p.parent ++ (x :: kids (l.drop (placeP l p)) p.parent) = insK p.after x (kids l p.parent) := by
 obtain ⟨h1, h2⟩ := (exists_iff l p).1 he
 by_cases ha : p.after = nil8
 ·by_cases hp : p.parent = nil8
  ·have e : placeP l p = 0 := by unfold placeP; rw [if_neg (fun h => h ha), if_neg (fun h => h hp)]
   rw [e, hp]
   refine ⟨place_top hv, fun x => ?_⟩
   rw [ha, List.take_zero, List.drop_zero]
   unfold insK
   rw [if_pos rfl]
   rfl
  ·have hk : (itemA l p.parent).kind = 1 := h1.resolve_left hp
   obtain ⟨j, hj⟩ := itemA_some (l := l) (d := p.parent) (by rw [hk]; decide)
   obtain ⟨hjl, hid, hit⟩ := itemA_at hj
   rw [hit] at hk
   have e : placeP l p = j + 1 := by unfold placeP; rw [if_neg (fun h => h ha), if_pos hp, hj]; rfl
   rw [e, ← hid]
   refine ⟨place_under hv hjl hk, fun x => ?_⟩
   have hc := kids_cut l (j + 1) l[j].id
   rw [kids_before hv hjl, List.nil_append] at hc
   rw [kids_before hv hjl, List.nil_append, hc, ha]
   unfold insK
   rw [if_pos rfl]
 ·obtain ⟨hk, hpar⟩ := h2.resolve_left ha
  obtain ⟨j, hj⟩ := itemA_some hk
  obtain ⟨hjl, hid, hit⟩ := itemA_at hj
  rw [hit] at hpar
  obtain ⟨t1, _, t3, t4, _⟩ := tree_at hv hjl
  have e : placeP l p = j + 1 + belowN l l[j].id := by
   unfold placeP
   rw [if_pos ha, hj, hid]
   show j + (1 + _) = _
   omega
  rw [e, ← hpar]
  refine ⟨place_after hv hjl t1 t3 t4, fun x => ?_⟩
  obtain ⟨pre, hpre, hno⟩ := kids_upto hv hjl t3
  have hc := kids_cut l (j + 1 + belowN l l[j].id) l[j].parent
  rw [hpre] at hc
  rw [hpre, ← hc, ← hid]
  unfold insK
  rw [if_neg (by rw [hid]; exact ha), List.append_assoc, List.append_assoc]
  show _ = insA l[j].id x (pre ++ l[j].id :: _)
  rw [insA_at l[j].id x pre _ hno]
  rfl
theorem formed_ins {p : Pt} (hk : p.kind = 1) (hf : formedP p = true) : p.item.id = p.id ∧ p.item.parent = p.parent ∧ properI p.item = true := by
 unfold formedP at hf
 rw [if_pos hk] at hf
 simp only [Bool.and_eq_true, decide_eq_true_eq] at hf
 obtain ⟨_, h1, h2, h3⟩ := hf
 refine ⟨h1, h2, ?_⟩
 have := valid_proper h3 _ (List.mem_singleton.2 rfl)
 exact this
theorem mem_put {l : List It} {p : Pt} {xs : List It} {y : It} : y ∈ putP l p xs ↔ y ∈ xs ∨ y ∈ l := by
 unfold putP
 rw [List.mem_append, List.mem_append]
 constructor
 ·rintro (h | h | h)
  ·exact Or.inr (List.mem_of_mem_take h)
  ·exact Or.inl h
  ·exact Or.inr (List.mem_of_mem_drop h)
 ·rintro (h | h)
  ·exact Or.inr (Or.inl h)
  ·rw [← List.take_append_drop (placeP l p) l] at h
   rcases List.mem_append.1 h with h | h
   ·exact Or.inl h
   ·exact Or.inr (Or.inr h)
theorem insert_eff {l : List It} (hv : validC l = true) {p : Pt} (hk : p.kind = 1) (hf : formedP p = true) {l' : List It} (h : insertP l p = (l', 0)) :
  validC l' = true ∧ (∀ q, kids l' q = if q = p.parent then insK p.after p.id (kids l q) else kids l q) ∧ (∀ y, y ∈ l' ↔ y = p.item ∨ y ∈ l) ∧ l'.length = l.length + 1 := by
 obtain ⟨hid, hpar, hpr⟩ := formed_ins hk hf
 unfold insertP at h
 split at h
 ·injection h with _ h; exact absurd h (by decide)
 rename_i hnone
 split at h
 ·injection h with _ h; exact absurd h (by decide)
 rename_i hex
 split at h
 ·injection h with _ h; exact absurd h (by decide)
 rename_i hlen
 injection h with h _
 subst h
 have hno : idxI l p.id = none := by
  cases hi : idxI l p.id with
  | none => rfl
  | some i => rw [hi] at hnone; exact absurd rfl hnone
 have hnew := idxI_none hno
 have hex : existsP l p = true := by simpa using hex
 obtain ⟨⟨s, n, g1, g2, g3⟩, hks⟩ := place_ok hv hex
 obtain ⟨hvn, ht⟩ := new_valid hv hpr (fun hm => by
  obtain ⟨y, hy, e⟩ := List.mem_map.1 hm
  exact hnew y hy (e.trans hid)) g1 (by rw [hpar]; exact g2) g3 (by omega)
 refine ⟨hvn, fun q => ?_, fun y => ?_, ?_⟩
 ·by_cases hq : q = p.id
  ·
   have hne : p.id ≠ nil8 := fun e => name_ne (proper_name hpr) (hid.trans e)
   have hqp : q ≠ p.parent := fun e => by
    obtain ⟨h1, _⟩ := (exists_iff l p).1 hex
    rcases h1 with h1 | h1
    ·exact hne (hq.symm.trans (e.trans h1))
    ·obtain ⟨j, hj⟩ := itemA_some (l := l) (d := p.parent) (by rw [h1]; decide)
     obtain ⟨hjl, hjd⟩ := idxI_some hj
     exact hnew _ (List.getElem_mem hjl) (hjd.trans (e.symm.trans hq))
   rw [if_neg hqp]
   have e1 : kids l q = [] := kids_foreign hv (by rw [hq]; exact hne) (fun hm => by
    obtain ⟨y, hy, e⟩ := List.mem_map.1 hm
    exact hnew y hy (e.trans hq))
   rw [e1]
   refine kids_none fun y hy e => ?_
   rcases mem_put.1 hy with h | h
   ·rw [List.mem_singleton.1 h, hpar] at e
    exact hqp e.symm
   ·have : y.id ∈ kids l q := mem_kids.2 ⟨y, h, e, rfl⟩
    rw [e1] at this
    cases this
  ·unfold putP
   rw [kids_lay (x := p.item) (R := []) ht (by rw [List.map_singleton, hid]; simpa using hq), hpar]
   by_cases hqp : q = p.parent
   ·subst hqp
    rw [if_pos rfl, if_pos rfl, hid]
    exact hks p.id
   ·rw [if_neg (fun e => hqp e.symm), if_neg hqp, List.nil_append, kids_cut]
 ·rw [mem_put, List.mem_singleton]
 ·unfold putP
  rw [List.length_append, List.length_append, List.length_take, List.length_drop, List.length_singleton]
  omega
end Dg
namespace Dg
theorem itemA_mem {l : List It} (hv : validC l = true) {y : It} (hy : y ∈ l) : itemA l y.id = y := by
 obtain ⟨i, hi, rfl⟩ := List.mem_iff_getElem.1 hy
 obtain ⟨_, _, h⟩ := itemA_at (idxI_at hv hi)
 exact h
theorem mem_itemA {l : List It} {d : ByteArray} (h : (itemA l d).kind ≠ 0) : itemA l d ∈ l ∧ (itemA l d).id = d := by
 obtain ⟨i, hi⟩ := itemA_some h
 obtain ⟨hl, hd, e⟩ := itemA_at hi
 rw [e]
 exact ⟨List.getElem_mem hl, hd⟩
theorem mem_three {l : List It} {i m : Nat} (hi : i < l.length) {y : It} : y ∈ l ↔ y ∈ l[i] :: (l.drop (i + 1)).take m ∨ y ∈ cutC l i m := by
 conv => lhs; rw [three l (m := m) hi]
 unfold cutC
 simp only [List.mem_append]
 constructor
 ·rintro (h | h | h)
  ·exact Or.inr (Or.inl h)
  ·exact Or.inl h
  ·exact Or.inr (Or.inr h)
 ·rintro (h | h | h)
  ·exact Or.inr (Or.inl h)
  ·exact Or.inl h
  ·exact Or.inr (Or.inr h)
theorem beside {l : List It} (hv : validC l = true) {i : Nat} (hi : i < l.length) {z : It} (hz : z ∈ cutC l i (belowN l l[i].id)) : z.parent ∉ (l[i] :: (l.drop (i + 1)).take (belowN l l[i].id)).map It.id := fun hm => by
 obtain ⟨t1, _, t3, t4, _⟩ := tree_at hv hi
 have hc : validC (cutC l i (belowN l l[i].id)) = true := remove_valid hv hi t3 t4 t1
 obtain ⟨y, hy, ey⟩ := List.mem_map.1 hm
 obtain ⟨k, hk, rfl⟩ := List.mem_iff_getElem.1 hz
 rcases parent_ahead hc hk with h0 | ⟨j, hj, h0⟩
 ·rw [h0] at ey
  have hyl : y ∈ l := (mem_three (m := belowN l l[i].id) hi).2 (Or.inl hy)
  exact name_ne (proper_name (valid_proper hv y hyl)) ey
 ·exact three_nodup hv hi y hy _ (List.getElem_mem (show j < (cutC l i (belowN l l[i].id)).length by omega)) (ey.trans h0.symm)
theorem own_parent {l : List It} (hv : validC l = true) {i m : Nat} (hi : i < l.length) : l[i].parent ∉ (l[i] :: (l.drop (i + 1)).take m).map It.id := fun hm => by
 obtain ⟨y, hy, ey⟩ := List.mem_map.1 hm
 have hyl : y ∈ l := (mem_three (m := m) hi).2 (Or.inl hy)
 rcases parent_ahead hv hi with h0 | ⟨j, hj, h0⟩
 ·rw [h0] at ey
  exact name_ne (proper_name (valid_proper hv y hyl)) ey
 ·have hz : l[j] ∈ cutC l i m := by
   unfold cutC
   refine List.mem_append.2 (Or.inl ?_)
   rw [List.mem_take_iff_getElem]
   exact ⟨j, by omega, rfl⟩
  exact three_nodup hv hi y hy _ hz (ey.trans h0.symm)
theorem move_place {l : List It} (hv : validC l = true) {p : Pt} {i : Nat} (hi : i < l.length) (hid : l[i].id = p.id) (hex : existsP l p = true) (hpp : p.parent ≠ p.id) (hpa : p.after ≠ p.id) (hun : p.parent ≠ nil8 → underN l p.parent p.id = false) :
  p.parent ∉ (l[i] :: (l.drop (i + 1)).take (belowN l l[i].id)).map It.id ∧ existsP (cutC l i (belowN l l[i].id)) p = true := by
 obtain ⟨t1, _, t3, t4, t5⟩ := tree_at hv hi
 have hc : validC (cutC l i (belowN l l[i].id)) = true := remove_valid hv hi t3 t4 t1
 obtain ⟨h1, h2⟩ := (exists_iff l p).1 hex
 have hpar : p.parent ∉ (l[i] :: (l.drop (i + 1)).take (belowN l l[i].id)).map It.id := fun hm => by
  obtain ⟨y, hy, ey⟩ := List.mem_map.1 hm
  have hyl : y ∈ l := (mem_three (m := belowN l l[i].id) hi).2 (Or.inl hy)
  have hne : p.parent ≠ nil8 := fun e => name_ne (proper_name (valid_proper hv y hyl)) (ey.trans e)
  have hu := hun hne
  rcases List.mem_cons.1 hy with rfl | hyR
  ·exact hpp (ey.symm.trans hid)
  ·obtain ⟨t, ht, rfl⟩ := List.mem_iff_getElem.1 hyR
   rw [List.length_take, List.length_drop] at ht
   have hk : i + 1 + t < l.length := by omega
   have eg : ((l.drop (i + 1)).take (belowN l l[i].id))[t]'(by rw [List.length_take, List.length_drop]; omega) = l[i + 1 + t] := by
    rw [List.getElem_take, List.getElem_drop]
   rw [eg] at ey
   have hix := idxI_at hv hk
   rw [ey] at hix
   unfold underN at hu
   rw [hix] at hu
   simp only [Bool.or_eq_false_iff] at hu
   obtain ⟨s, hw, _⟩ := valid_walk hv
   have hvl := walk_len (Nat.le_refl _) hw
   have hkv : i + 1 + t < (visits l).length := by omega
   have h9 := (t5 (i + 1 + t) hk (visits l)[i + 1 + t] (List.getElem?_eq_getElem hkv)).2 ⟨by omega, by omega⟩
   have h8 := hu.2
   rw [List.getD_eq_getElem?_getD, List.getElem?_eq_getElem hkv, Option.getD_some] at h8
   exact (inB_no _ _).1 h8 (by rw [← hid]; exact h9)
 refine ⟨hpar, (exists_iff _ p).2 ⟨?_, ?_⟩⟩
 ·rcases h1 with h1 | h1
  ·exact Or.inl h1
  ·obtain ⟨m1, m2⟩ := mem_itemA (l := l) (d := p.parent) (by rw [h1]; decide)
   refine Or.inr ?_
   rcases (mem_three (m := belowN l l[i].id) hi).1 m1 with h | h
   ·exact absurd (List.mem_map.2 ⟨_, h, m2⟩) hpar
   ·have := itemA_mem hc h
    rw [m2] at this
    rw [this]; exact h1
 ·rcases h2 with h2 | ⟨h2, h3⟩
  ·exact Or.inl h2
  ·obtain ⟨m1, m2⟩ := mem_itemA h2
   refine Or.inr ?_
   rcases (mem_three (m := belowN l l[i].id) hi).1 m1 with h | h
   ·exfalso
    rcases List.mem_cons.1 h with h | h
    ·exact hpa (by rw [← m2, h]; exact hid)
    ·have := t3 _ h
     rw [h3] at this
     exact hpar this
   ·have := itemA_mem hc h
    rw [m2] at this
    rw [this]; exact ⟨h2, h3⟩
theorem move_eff {l : List It} (hv : validC l = true) {p : Pt} {i : Nat} (hi : i < l.length) (hid : l[i].id = p.id) {l' : List It} (h : moveP l p i l[i] = (l', 0)) :
  validC l' = true ∧ (∀ q, kids l' q = if q = p.parent then insK p.after p.id (outK p.id (kids l q)) else outK p.id (kids l q)) ∧ (∀ y, y ∈ l' ↔ y = { l[i] with parent := p.parent } ∨ (y ∈ l ∧ y.id ≠ p.id)) ∧ l'.length = l.length := by
 unfold moveP at h
 split at h
 ·injection h with _ h; exact absurd h (by decide)
 rename_i hc0
 have hex : existsP l p = true := by
  cases he : existsP l p with
  | true => rfl
  | false => exact absurd (Or.inl he) hc0
 have hpp : p.parent ≠ p.id := fun e => hc0 (Or.inr (Or.inl e))
 have hpa : p.after ≠ p.id := fun e => hc0 (Or.inr (Or.inr (Or.inl e)))
 have hun : p.parent ≠ nil8 → underN l p.parent p.id = false := fun hne => by
  cases hu : underN l p.parent p.id with
  | false => rfl
  | true => exact absurd (Or.inr (Or.inr (Or.inr ⟨hne, hu⟩))) hc0
 obtain ⟨hpar, hex1⟩ := move_place hv hi hid hex hpp hpa hun
 obtain ⟨t1, _, t3, t4, _⟩ := tree_at hv hi
 rw [← hid] at h
 injection h with h _
 have hc : validC (cutC l i (belowN l l[i].id)) = true := remove_valid hv hi t3 t4 t1
 obtain ⟨⟨s, n, g1, g2, g3⟩, hks⟩ := place_ok hc hex1
 have hprop : properI { l[i] with parent := p.parent } = true := show properI l[i] = true from valid_proper hv _ (List.getElem_mem hi)
 obtain ⟨hvn, ht'⟩ := move_valid hv hi t1 t3 t4 (x' := { l[i] with parent := p.parent }) rfl rfl hprop g1 g2 g3
 subst h
 have hids : ({ l[i] with parent := p.parent } :: (l.drop (i + 1)).take (belowN l l[i].id)).map It.id = (l[i] :: (l.drop (i + 1)).take (belowN l l[i].id)).map It.id := rfl
 have hown := own_parent hv (m := belowN l l[i].id) hi
 refine ⟨hvn, fun q => ?_, fun y => ?_, ?_⟩
 ·by_cases hq : q ∈ (l[i] :: (l.drop (i + 1)).take (belowN l l[i].id)).map It.id
  ·have hqp : q ≠ p.parent := fun e => hpar (e ▸ hq)
   have hbs : ∀ L : List It, (∀ z ∈ L, z ∈ cutC l i (belowN l l[i].id)) → kids L q = [] := fun L hL => kids_none fun z hz e => beside hv hi (hL z hz) (by rw [e]; exact hq)
   have hnot : p.id ∉ kids l q := fun hm => by
    obtain ⟨x, hx, e1, e2⟩ := mem_kids.1 hm
    obtain ⟨k, hk, rfl⟩ := List.mem_iff_getElem.1 hx
    have := id_inj hv hk hi (e2.trans hid.symm)
    subst this
    exact hown (by rw [e1]; exact hq)
   rw [if_neg hqp, outK_not hnot]
   unfold putP
   have e1 : kids l q = kids (l[i] :: (l.drop (i + 1)).take (belowN l l[i].id)) q := by
    conv => lhs; rw [three l (m := belowN l l[i].id) hi]
    rw [kids_append, kids_append, hbs (l.take i) (fun z hz => List.mem_append.2 (Or.inl hz)), hbs (l.drop (i + 1 + belowN l l[i].id)) (fun z hz => List.mem_append.2 (Or.inr hz)), List.nil_append, List.append_nil]
   rw [kids_append, kids_append, hbs _ (fun z hz => List.mem_of_mem_take hz), hbs _ (fun z hz => List.mem_of_mem_drop hz), List.nil_append, List.append_nil, e1]
   rw [kids_cons_no (x := { l[i] with parent := p.parent }) _ (fun e => hqp e.symm), kids_cons_no (x := l[i]) _ (fun e => hown (by rw [e]; exact hq))]
  ·have hrm2 : kids (cutC l i (belowN l l[i].id)) q = outK p.id (kids l q) := by
    have h9 : kids (cutC l i (belowN l l[i].id)) q = outK l[i].id (kids l q) := kids_remove hv hi t3 hq
    rw [h9, hid]
   unfold putP
   rw [kids_lay ht' (by rw [hids]; exact hq)]
   by_cases hqp : q = p.parent
   ·rw [if_pos (show ({ l[i] with parent := p.parent } : It).parent = q from hqp.symm), if_pos hqp, ← hrm2, hqp, ← hks p.id]
    show _ ++ ([l[i].id] ++ _) = _
    rw [hid]
    rfl
   ·rw [if_neg (show ¬ ({ l[i] with parent := p.parent } : It).parent = q from fun e => hqp e.symm), if_neg hqp, List.nil_append, kids_cut, hrm2]
 ·rw [mem_put]
  constructor
  ·rintro (h | h)
   ·rcases List.mem_cons.1 h with h | h
    ·exact Or.inl h
    ·refine Or.inr ⟨(mem_three (m := belowN l l[i].id) hi).2 (Or.inl (List.mem_cons_of_mem _ h)), fun e => ?_⟩
     obtain ⟨t, ht, rfl⟩ := List.mem_iff_getElem.1 h
     rw [List.length_take, List.length_drop] at ht
     rw [List.getElem_take, List.getElem_drop] at e
     have := id_inj hv (i := i + 1 + t) (by omega) hi (e.trans hid.symm)
     omega
   ·refine Or.inr ⟨(mem_three (m := belowN l l[i].id) hi).2 (Or.inr h), fun e => ?_⟩
    exact three_nodup hv hi l[i] (List.mem_cons_self ..) y h (hid.trans e.symm)
  ·rintro (h | ⟨h, hne⟩)
   ·exact Or.inl (by rw [h]; exact List.mem_cons_self ..)
   ·rcases (mem_three (m := belowN l l[i].id) hi).1 h with h | h
    ·rcases List.mem_cons.1 h with h | h
     ·exact absurd (by rw [h]; exact hid) hne
     ·exact Or.inl (List.mem_cons_of_mem _ h)
    ·exact Or.inr h
 ·unfold putP cutC
  simp only [List.length_append, List.length_cons, List.length_take, List.length_drop]
  omega
end Dg
theorem emp_no {s : ByteArray} (h : s ≠ Dg.nil8) : s.toList.isEmpty = false := by rw [← emp_iff]; exact decide_eq_false h
theorem emp_yes {s : ByteArray} (h : s = Dg.nil8) : s.toList.isEmpty = true := by rw [← emp_iff]; exact decide_eq_true h
theorem findX_idx {l : List Dg.It} {d : ByteArray} {i : Nat} (h : Dg.idxI l d = some i) : findX l d = (i : Int) := by rw [idxI_find, h]
theorem findX_no {l : List Dg.It} {d : ByteArray} (h : Dg.idxI l d = none) : findX l d = -1 := by rw [idxI_find, h]
theorem put_of (l : List Dg.It) (A : Option Addr) (n c : Nat) (hl : l.length = n) (hn : n ≤ 1048576) (p : Dg.Pt) (ix : Int) (hw : ∀ x ∈ l, ItW x) (hv : Dg.validC l = true) (m : List Dg.It) (k g2 c2 : Nat) (sp2 : List Value) (hm : m.length = k) (hk : 0 < k) (hnk : n + k ≤ 1048576) (hex : Dg.existsP l p = true) (w : World) (hI : Its w w.heap.size A l) (hg2 : w.heap[g2]? = some (.cells (iLay.flat m ++ sp2).toArray 51 (0, 0))) :
  Calls Tryz.prog 90 #[.agg (Rq5 A n c p ix), .slice (some ⟨g2, 0, none⟩) k c2] w fun e w' => ∃ v', e = .returned (.agg #[v']) ∧ Own1 iLay 51 w' w.heap.size v' (Dg.putP l p m) ∧ Below w.heap.size w w' := by
 obtain ⟨h1, h2⟩ := (Dg.exists_iff l p).1 hex
 unfold Dg.putP
 by_cases ha : p.after = Dg.nil8
 ·by_cases hp : p.parent = Dg.nil8
  ·have e : Dg.placeP l p = 0 := by unfold Dg.placeP; rw [if_neg (fun h => h ha), if_neg (fun h => h hp)]
   rw [e]
   exact put_c l A n c hl hn p ix m k g2 c2 sp2 hm hk hnk (emp_yes ha) (emp_yes hp) w hI hg2
  ·have hkd : (Dg.itemA l p.parent).kind = 1 := h1.resolve_left hp
   obtain ⟨j, hj⟩ := Dg.itemA_some (l := l) (d := p.parent) (by rw [hkd]; decide)
   obtain ⟨hjl, _, _⟩ := Dg.itemA_at hj
   have e : Dg.placeP l p = j + 1 := by unfold Dg.placeP; rw [if_neg (fun h => h ha), if_pos hp, hj]; rfl
   rw [e]
   exact put_b l A n c hl hn p ix m k g2 c2 sp2 hm hk hnk j (emp_yes ha) (emp_no hp) (findX_idx hj) (by omega) w hI hg2
 ·obtain ⟨hkd, _⟩ := h2.resolve_left ha
  obtain ⟨j, hj⟩ := Dg.itemA_some hkd
  obtain ⟨hjl, hid, _⟩ := Dg.itemA_at hj
  obtain ⟨t1, _⟩ := Dg.tree_at hv hjl
  have e : Dg.placeP l p = j + (1 + Dg.belowN l p.after) := by
   unfold Dg.placeP
   rw [if_pos ha, hj]
   rfl
  rw [hid] at t1
  rw [e]
  exact put_a l A n c hl hn p ix hw hv m k g2 c2 sp2 hm hk hnk j _ (emp_no ha) (findX_idx hj) rfl (by omega) w hI hg2
def ApR (R : List Dg.It × Int) (w : World) (e : Ending) (w' : World) : Prop := ∃ v', e = .returned (.tuple #[.agg #[v'], .int .i64 R.2]) ∧ Own1 iLay 51 w' w.heap.size v' R.1 ∧ Below w.heap.size w w'
theorem ApR.own {R : List Dg.It} {w w' : World} {e : Ending} {v' : Value} {B : Nat} (he : e = .returned (.tuple #[.agg #[v'], .int .i64 0])) (hO : Own1 iLay 51 w' B v' R) (hB : w.heap.size ≤ B) (hb : Below w.heap.size w w') : ApR (R, 0) w e w' := ⟨v', he, own_weak hO hB, hb⟩
theorem ApR.err {k : Int} {w w' : World} {e : Ending} (he : e = .returned (.tuple #[.agg Rq3, .int .i64 k])) (hb : Below w.heap.size w w') : ApR ([], k) w e w' := ⟨_, he, Own1.nil iLay 51 w' _, hb⟩
attribute [-go_sem] Instr.storeAt in
theorem insert_t (l : List Dg.It) (A : Option Addr) (n c : Nat) (hl : l.length = n) (_hn : n ≤ 1048576) (p : Dg.Pt) (ix : Int) (h0 : 0 ≤ ix) (w : World) (hI : Its w w.heap.size A l) :
  Calls Tryz.prog 63 #[.agg (Rq5 A n c p ix)] w (ApR ([], 9) w) := by
 obtain ⟨r1, r2, hb, hs⟩ := iAlloc2 w (.cells (Rq5 A n c p ix) 143) (.cells Rq3 24)
 have HI := hide (hI.keep hb); have HL := hide hl; have HS := hide hs
 clear hI hl hs
 have hcs := jC17 r1
 have c0 := hcs.1; have c16 := hcs.2.2.2.2.2.2.2.2.2.2.2.2.2.2.2.2
 clear hcs
 go_enter func63, ntmps63
 go_upto_region 2 with (fail)
 generalize (w.alloc (.cells (Rq5 A n c p ix) 143)).alloc (.cells Rq3 24) = W1 at *
 clear c0 c16
 have hst := store_part (ty := 24) W1 (w.heap.size + 1) 0 Rq3 (.agg Rq3) Rq3 r2 infoCode1 (Nat.le_refl _) (one_code _ _ _) rfl
 have r25 := setRow_heap W1 (w.heap.size + 1) _ Rq3 _ _ r2
 have hb8 := below_setRow hb (by omega) (g := w.heap.size + 1) Rq3
 go_wp2
 refine bodyPost_ret (results_c8 results63 _ _ (w.heap.size + 1) 24 #[.slice none 0 0] (0, 0) _ rfl r25 underlying24 (by kernel_rfl)) rfl (ApR.err rfl hb8)
attribute [-go_sem] Instr.storeAt in
theorem insert_p (l : List Dg.It) (A : Option Addr) (n c : Nat) (hl : l.length = n) (hn : n ≤ 1048576) (p : Dg.Pt) (ix : Int) (h0 : ix < 0) (hex : Dg.existsP l p = false) (w : World) (hI : Its w w.heap.size A l) :
  Calls Tryz.prog 63 #[.agg (Rq5 A n c p ix)] w (ApR ([], 14) w) := by
 obtain ⟨r1, r2, hb, hs⟩ := iAlloc2 w (.cells (Rq5 A n c p ix) 143) (.cells Rq3 24)
 have HI := hide (hI.keep hb); have HL := hide hl; have HS := hide hs
 clear hI hl hs
 have hcs := jC17 r1
 have c0 := hcs.1; have c16 := hcs.2.2.2.2.2.2.2.2.2.2.2.2.2.2.2.2
 clear hcs
 have HEX := hide hex
 clear hex
 have hR17 := hide (range_of r1 0 (Rq5 A n c p ix) rfl)
 go_enter func63, ntmps63
 go_wp2_with (with_reducible refine wpList_load_mid rfl 143 (.tmp 1) rfl w.heap.size 0 rfl _ _ hR17.out underlying143 rfl (by kernel_rfl) ?_)
 generalize (w.alloc (.cells (Rq5 A n c p ix) 143)).alloc (.cells Rq3 24) = W1 at *
 refine (exists_of l A n c HL.out hn p ix W1 HI.out false HEX.out).mono ?_
 rintro e w2 ⟨rfl, hbq⟩
 have r12 := iNext r1 hbq
 have r22 := iNext r2 hbq
 have hb2 := bnext hb hbq
 have HI2 := hide (HI.out.keep hbq)
 have hsz2 : w.heap.size + 2 ≤ w2.heap.size := by have := hbq.size; have := HS.out; omega
 clear hbq hb r1 r2 HI c0 c16 hR17
 have hst := store_part (ty := 24) w2 (w.heap.size + 1) 0 Rq3 (.agg Rq3) Rq3 r22 infoCode1 (Nat.le_refl _) (one_code _ _ _) rfl
 have r25 := setRow_heap w2 (w.heap.size + 1) _ Rq3 _ _ r22
 have hb8 := below_setRow hb2 (by omega) (g := w.heap.size + 1) Rq3
 go_wp2
 refine bodyPost_ret (results_c8 results63 _ _ (w.heap.size + 1) 24 #[.slice none 0 0] (0, 0) _ rfl r25 underlying24 (by kernel_rfl)) rfl (ApR.err rfl hb8)
attribute [-go_sem] Instr.storeAt in
theorem insert_m (l : List Dg.It) (A : Option Addr) (n c : Nat) (hl : l.length = n) (hn : n ≤ 1048576) (p : Dg.Pt) (ix : Int) (h0 : ix < 0) (hex : Dg.existsP l p = true) (hmx : (2000 : Int) ≤ (n : Int)) (w : World) (hI : Its w w.heap.size A l) :
  Calls Tryz.prog 63 #[.agg (Rq5 A n c p ix)] w (ApR ([], 2) w) := by
 obtain ⟨r1, r2, hb, hs⟩ := iAlloc2 w (.cells (Rq5 A n c p ix) 143) (.cells Rq3 24)
 have HI := hide (hI.keep hb); have HL := hide hl; have HS := hide hs
 clear hI hl hs
 have hcs := jC17 r1
 have c0 := hcs.1; have c16 := hcs.2.2.2.2.2.2.2.2.2.2.2.2.2.2.2.2
 clear hcs
 have HEX := hide hex
 clear hex
 have hR17 := hide (range_of r1 0 (Rq5 A n c p ix) rfl)
 go_enter func63, ntmps63
 go_wp2_with (with_reducible refine wpList_load_mid rfl 143 (.tmp 1) rfl w.heap.size 0 rfl _ _ hR17.out underlying143 rfl (by kernel_rfl) ?_)
 generalize (w.alloc (.cells (Rq5 A n c p ix) 143)).alloc (.cells Rq3 24) = W1 at *
 refine (exists_of l A n c HL.out hn p ix W1 HI.out true HEX.out).mono ?_
 rintro e w2 ⟨rfl, hbq⟩
 have r12 := iNext r1 hbq
 have r22 := iNext r2 hbq
 have hb2 := bnext hb hbq
 have HI2 := hide (HI.out.keep hbq)
 have hsz2 : w.heap.size + 2 ≤ w2.heap.size := by have := hbq.size; have := HS.out; omega
 clear hbq hb r1 r2 HI c0 c16 hR17
 have c0 := (jC17 r12).1
 go_upto_region 6 with (fail)
 clear c0
 have hst := store_part (ty := 24) w2 (w.heap.size + 1) 0 Rq3 (.agg Rq3) Rq3 r22 infoCode1 (Nat.le_refl _) (one_code _ _ _) rfl
 have r25 := setRow_heap w2 (w.heap.size + 1) _ Rq3 _ _ r22
 have hb8 := below_setRow hb2 (by omega) (g := w.heap.size + 1) Rq3
 go_wp2
 refine bodyPost_ret (results_c8 results63 _ _ (w.heap.size + 1) 24 #[.slice none 0 0] (0, 0) _ rfl r25 underlying24 (by kernel_rfl)) rfl (ApR.err rfl hb8)
attribute [-go_sem] Instr.storeAt in
theorem insert_o (l : List Dg.It) (A : Option Addr) (n c : Nat) (hl : l.length = n) (hn : n ≤ 1048576) (p : Dg.Pt) (ix : Int) (hw : ∀ x ∈ l, ItW x) (hv : Dg.validC l = true) (h0 : ix < 0) (hex : Dg.existsP l p = true) (hmx : ¬ (2000 : Int) ≤ (n : Int)) (w : World) (hI : Its w w.heap.size A l) :
  Calls Tryz.prog 63 #[.agg (Rq5 A n c p ix)] w (ApR (Dg.putP l p [p.item], 0) w) := by
 obtain ⟨r1, r2, hb, hs⟩ := iAlloc2 w (.cells (Rq5 A n c p ix) 143) (.cells Rq3 24)
 have HI := hide (hI.keep hb); have HL := hide hl; have HS := hide hs
 clear hI hl hs
 have hcs := jC17 r1
 have c0 := hcs.1; have c16 := hcs.2.2.2.2.2.2.2.2.2.2.2.2.2.2.2.2
 clear hcs
 have HEX := hide hex; have HW := hide hw; have HV := hide hv
 clear hex hw hv
 have hR17 := hide (range_of r1 0 (Rq5 A n c p ix) rfl)
 go_enter func63, ntmps63
 go_wp2_with (with_reducible refine wpList_load_mid rfl 143 (.tmp 1) rfl w.heap.size 0 rfl _ _ hR17.out underlying143 rfl (by kernel_rfl) ?_)
 generalize (w.alloc (.cells (Rq5 A n c p ix) 143)).alloc (.cells Rq3 24) = W1 at *
 refine (exists_of l A n c HL.out hn p ix W1 HI.out true HEX.out).mono ?_
 rintro e w2 ⟨rfl, hbq⟩
 have r12 := iNext r1 hbq
 have r22 := iNext r2 hbq
 have hb2 := bnext hb hbq
 have HI2 := hide (HI.out.keep hbq)
 have hsz2 : w.heap.size + 2 ≤ w2.heap.size := by have := hbq.size; have := HS.out; omega
 clear hbq hb r1 r2 HI c0 c16 hR17
 have c0 := (jC17 r12).1
 go_upto_region 7 with (fail)
 clear c0
 have hR17 := hide (range_of r12 0 (Rq5 A n c p ix) rfl)
 have hRI := hide (range_of r12 6 (Rq4 p.item) rfl)
 go_wp2_with (first | (with_reducible refine wpList_load_mid rfl 143 (.tmp 1) rfl w.heap.size 0 rfl _ _ hR17.out underlying143 rfl (by kernel_rfl) ?_) | (with_reducible refine wpList_load_mid rfl 51 (.tmp 23) rfl w.heap.size 6 rfl _ _ hRI.out underlying51 rfl (by kernel_rfl) ?_))
 clear hR17 hRI
 have hbn := nwB w2 (.cells (Rq4 p.item) 51)
 have hgn : (w2.alloc (.cells (Rq4 p.item) 51)).heap[w2.heap.size]? = some (.cells (iLay.flat [p.item] ++ []).toArray 51 (0, 0)) := heap_alloc_new w2 (.cells (Rq4 p.item) 51)
 have r23 := iNext r22 hbn
 have hb3 := bnext hb2 hbn
 have HI3 := hide (HI2.out.keep hbn)
 clear hbn hb2 r12 r22 HI2
 generalize w2.alloc (.cells (Rq4 p.item) 51) = w3 at *
 refine (put_of l A n c HL.out hn p ix HW.out HV.out [p.item] 1 w2.heap.size 1 [] rfl (by omega) (by omega) HEX.out w3 HI3.out hgn).mono ?_
 rintro e w4 ⟨v2, rfl, hO2, hb5⟩
 clear hgn
 obtain ⟨A2, c2', hv2, _, _⟩ := hO2.row
 obtain ⟨m', hm'⟩ : ∃ m', (Dg.putP l p [p.item]).length = m' := ⟨_, rfl⟩
 rw [hm'] at hv2
 clear hm'
 subst hv2
 have hl3 := lt_of_block r23
 have r24 := iNext r23 hb5
 have hb6 := bnext hb3 hb5
 have hst := store_part (ty := 24) w4 (w.heap.size + 1) 0 Rq3 (.agg #[.slice A2 m' c2']) #[.slice A2 m' c2'] r24 infoCode1 (Nat.le_refl _) (one_code _ _ _) rfl
 have r25 := setRow_heap w4 (w.heap.size + 1) _ #[.slice A2 m' c2'] _ _ r24
 have hb8 := below_setRow hb6 (by omega) (g := w.heap.size + 1) #[.slice A2 m' c2']
 have HO2 := hide (own_other hO2 (g := w.heap.size + 1) (fun e => by have := (World.ownsRow.lt hO2 _ e).1; omega) #[.slice A2 m' c2'])
 clear hO2 hb5 hb6 r23 r24 hb3 HI3
 go_wp2
 refine bodyPost_ret (results_c8 results63 _ _ (w.heap.size + 1) 24 #[.slice A2 m' c2'] (0, 0) _ rfl r25 underlying24 (by kernel_rfl)) rfl (ApR.own rfl HO2.out (by omega) hb8)
theorem insert_of (l : List Dg.It) (A : Option Addr) (n c : Nat) (hl : l.length = n) (hn : n ≤ 1048576) (p : Dg.Pt) (ix : Int) (hw : ∀ x ∈ l, ItW x) (hv : Dg.validC l = true) (hix : findX l p.id = ix) (w : World) (hI : Its w w.heap.size A l) :
  Calls Tryz.prog 63 #[.agg (Rq5 A n c p ix)] w (ApR (Dg.insertP l p) w) := by
 unfold Dg.insertP
 cases hi : Dg.idxI l p.id with
 | some i =>
  rw [findX_idx hi] at hix
  subst hix
  exact insert_t l A n c hl hn p (i : Int) (by omega) w hI
 | none =>
  rw [findX_no hi] at hix
  subst hix
  simp only [Option.isSome_none, Bool.false_eq_true, if_false]
  cases hex : Dg.existsP l p with
  | false =>
   rw [if_pos rfl]
   exact insert_p l A n c hl hn p (-1) (by omega) hex w hI
  | true =>
   rw [if_neg (by decide)]
   by_cases hm : 2000 ≤ l.length
   ·rw [if_pos hm]
    exact insert_m l A n c hl hn p (-1) (by omega) hex (by omega) w hI
   ·rw [if_neg hm]
    exact insert_o l A n c hl hn p (-1) hw hv (by omega) hex (by omega) w hI
end Go.Proofs.YtkpbofnnnihbeaaGreat

