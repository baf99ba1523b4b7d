/- Path of the reference. -/
import Derived.Test.YtmmpndijfbbnnaaDoorExt2
import Derived.Deep.RegionHeld3
import Derived.IntWalk
import Derived.Test.YtmmpndijfbbnnaaDoorTreeLaw
namespace Go.Proofs.YtmmpndijfbbnnaaDoor
open Go Go.RowKit Go.Sort
theorem OwnS.base {w : World} {B B' : Nat} {v : Value} {l : List ByteArray} (h : OwnS w B v l) (hB : B' ≤ B) : OwnS w B' v l := by
  obtain ⟨h1, h2⟩ := h
  refine ⟨h1, ?_⟩
  rcases h2 with h2 | ⟨g, cap, cur, hv, hg, hh, r⟩
  · exact Or.inl h2
  · exact Or.inr ⟨g, cap, cur, hv, by omega, hh, r⟩
theorem OwnS.alloc {w : World} {B : Nat} {v : Value} {l : List ByteArray} (h : OwnS w B v l) (o : Obj) : OwnS (w.alloc o) B v l := OwnV.alloc h o
theorem OwnS.drew {w : World} {B : Nat} {v : Value} {l : List ByteArray} (h : OwnS w B v l) : OwnS w.drew B v l := h
theorem new_cell (w : World) (v : Value) (T : TypeId) : (w.alloc (.cells #[v] T)).cell? ⟨w.heap.size, 0, none⟩ = some v := by
  rw [cell_of_row _ _ _ _ _ (0, 0) (heap_alloc_new w _)]; rfl
/-- One string, known by its cell, onto strings of the call's own. -/
theorem step_c (w0 : World) {ops : Array Oper} {rest : List Oper} {o : Oper} {a : Act} {Q : Exit → Act → World → Prop} (hgd : o.guard = none) (sl x : Operand)
    (ho : o.op = .call { callee := .builtin .append, args := #[sl, x], argTypes := #[22, 22] })
    (s : ByteArray) (B : Nat) (v : Value) (l : List ByteArray) (hs : a.eval sl = v) (hown : OwnS w0 B v l) (ad : Addr) (c : Nat) (hx : a.eval x = .slice (some ad) 1 c) (hc : w0.cell? ad = some (.string s))
    (hlen : l.length < 1099511627776) (hB : B ≤ w0.heap.size)
    (h : ∀ v' w', OwnS w' B v' (l ++ [s]) → Below B w0 w' → wpList Tryd.prog ops Q rest (a.put o.dst v') w') : wpList Tryd.prog ops Q (o :: rest) a w0 := by
  refine step_one _ hgd sl x 22 9 _ _ ho Tryd.underlying22 strInfo rfl B v _ hs hown ad c (.string s) hx hc rfl (by rw [List.length_map]; exact hlen) (by omega) hB fun v' w' h1 h2 => h v' w' ?_ h2
  unfold OwnS
  rw [List.map_append]
  exact h1
/-- The same at a step of a region that draws its order. -/
theorem step_cd {w : World} {ops : Array Oper} {o : Oper} {a : Act} {K : Act → World → Prop} {Q : Exit → Act → World → Prop} {E : Prop} (hgd : o.guard = none) (sl x : Operand)
    (ho : o.op = .call { callee := .builtin .append, args := #[sl, x], argTypes := #[22, 22] })
    (s : ByteArray) (B : Nat) (v : Value) (l : List ByteArray) (hs : a.eval sl = v) (hown : OwnS w B v l) (ad : Addr) (c : Nat) (hx : a.eval x = .slice (some ad) 1 c) (hc : w.cell? ad = some (.string s))
    (hlen : l.length < 1099511627776) (hB : B ≤ w.heap.size)
    (h : ∀ g cap w', OwnS w' B (.slice (some ⟨g, 0, none⟩) (l.length + 1) cap) (l ++ [s]) → Below B w w' → K (a.put o.dst (.slice (some ⟨g, 0, none⟩) (l.length + 1) cap)) w') :
    if Region.wanted o (yielded ops a.tmps) = true then Oper.wp Tryd.prog o a w K Q else E := by
  obtain ⟨i, h1, h2, h3, h4⟩ := info_parts strInfo
  unfold OwnS OwnV at hown
  rw [List.length_map] at hown
  refine step_append_lies w hgd sl x 22 ho B 9 i _ 1 16 Tryd.underlying22 h1 h2 h3 h4 rfl (by omega) v l.length _ hs hown ad 1 c [.string s] hx rfl ?_ ?_ (by omega) (by unfold maxLen; omega) (by omega) hB w.heap.size rfl fun g cap w' h5 h6 _ _ => h g cap w' ?_ (below_own hown h6 hB)
  · intro j u' hj
    rcases j with _ | j
    · obtain rfl : Value.string s = u' := by simpa using hj
      have : ad.add 0 = ad := by unfold Addr.add; simp
      rw [this]; exact hc
    · simp at hj
  · intro u' hu'
    obtain rfl : u' = Value.string s := by simpa using hu'
    rfl
  · unfold OwnS OwnV
    rw [List.length_map, List.length_append, List.map_append, List.length_singleton]
    exact h5
theorem Below.more {w W : World} (h : Below w.heap.size w W) (o : Obj) : Below w.heap.size w (W.alloc o) := h.alloc h.size o
theorem Below.news {w W : World} (_h : Below w.heap.size w W) (o : Obj) : Below W.heap.size W (W.alloc o) := (Below.refl _ _).alloc (Nat.le_refl _) o
set_option maxRecDepth 100000 in
set_option maxHeartbeats 1000000 in
theorem rpath_any (n : Nat) : ∀ (A : Option Addr) (c : Nat) (l : List ByteArray) (i : Nat) (w : World), l.length = n → n ≤ c → 1 ≤ n → i < n → n ≤ 1048576 → (∀ s ∈ l, s.size ≤ 1048576) → Strs w w.heap.size A l →
    Calls Tryd.prog 47 #[.slice A n c, .int .i64 i] w fun e w' => (∃ v, e = Ending.returned v ∧ OwnS w' w.heap.size v (Dg.path l i)) ∧ Below w.heap.size w w' := by
  induction n using Nat.strongRecOn with
  | _ n ih =>
  intro A c l i w hl hc h1 hi hn hs hS
  go_enter Tryd.func47, Tryd.ntmps47
  by_cases hone : n = 1
  · subst hone
    go_wp2
    go_ret
    rw [Dg.path_short l i (by omega)]
    exact ⟨⟨_, rfl, OwnS.nil _ _⟩, Below.refl _ _⟩
  · have g1 := Dg.half_pos n
    have g2 := Dg.half_lt n (by omega)
    have n1 : ((n : Int) == 1) = false := by simpa using (show ¬ (n : Int) = 1 by omega)
    have pf := hide (fun h => Dg.path_fst l i (by omega) h)
    have ps := hide (fun h => Dg.path_snd l i (by omega) h)
    rw [hl] at pf ps
    have HS := hide hs; clear hs
    have r1 := hide (fun (W : World) (g : Below w.heap.size w W) => (rroot_of (Dg.half n) A c (l.take (Dg.half n)) _ W (by rw [List.length_take]; omega) rfl (by omega) (by omega) (fun s hs' => HS.out s (List.mem_of_mem_take hs')) (keepS (hS.take _) g)))
    have r2 := hide (fun (W : World) (g : Below w.heap.size w W) => (rroot_of (n - Dg.half n) (offA A (Dg.half n) c) (c - Dg.half n) (l.drop (Dg.half n)) _ W (by rw [List.length_drop, hl]) rfl (by omega) (by omega) (fun s hs' => HS.out s (List.mem_of_mem_drop hs')) (keepS (hS.drop (by omega) _) g)))
    have p1 := hide (fun (W : World) (g : Below w.heap.size w W) (h : i < Dg.half n) => (ih (Dg.half n) g2 A c (l.take (Dg.half n)) i W (by rw [List.length_take]; omega) (by omega) g1 h (by omega) (fun s hs' => HS.out s (List.mem_of_mem_take hs')) (keepS (hS.take _) g)))
    have g4 : 1 ≤ n - Dg.half n := by omega
    have p2 := hide (fun (W : World) (g : Below w.heap.size w W) (h : ¬ i < Dg.half n) => (ih (n - Dg.half n) (by omega) (offA A (Dg.half n) c) (c - Dg.half n) (l.drop (Dg.half n)) (i - Dg.half n) W (by rw [List.length_drop, hl]) (by omega) g4 (by omega) (by omega) (fun s hs' => HS.out s (List.mem_of_mem_drop hs')) (keepS (hS.drop (by omega) _) g)))
    have e1 := hide (show (l.take (Dg.half n)).length = Dg.half n by rw [List.length_take]; omega)
    have e2 := hide (show (l.drop (Dg.half n)).length = n - Dg.half n by rw [List.length_drop]; omega)
    clear ih hS
    go_wp2_with fail
    refine (rhalf_any n (by omega) _).mono ?_
    rintro e w1 ⟨rfl, rfl⟩
    generalize Dg.half n = m at *
    have l1 : i < m → (Dg.path (l.take m) i).length ≤ 1048576 := fun h => by rw [Dg.path_len m _ _ e1.out h]; have := length_le m i; omega
    have l2 : ¬ i < m → (Dg.path (l.drop m) (i - m)).length ≤ 1048576 := fun h => by rw [Dg.path_len (n - m) _ _ e2.out (by omega)]; have := length_le (n - m) (i - m); omega
    have L1 := hide l1; have L2 := hide l2; clear l1 l2
    generalize Dg.root (l.take m) = X at *
    generalize Dg.root (l.drop m) = Y at *
    have s1 := slice_to A n c m (by omega)
    have s2 := slice_from A n c m (by omega)
    have hdr : Below w.heap.size w w.drew := (Below.refl _ _).drew
    by_cases him : i < m
    · have pl := L1.out him
      have P1 := hide (fun W (g : Below w.heap.size w W) => (p1.out W g him).mono fun e w' ⟨⟨v, h1, h2⟩, h3⟩ => (⟨⟨v, h1, h2.base g.size⟩, h3⟩ : (∃ v, e = Ending.returned v ∧ OwnS w' w.heap.size v (Dg.path (l.take m) i)) ∧ Below W.heap.size W w'))
      have PE := hide (pf.out him)
      generalize Dg.path (l.take m) i = q at *
      clear p1 p2 pf ps L1 L2
      go_wp2_with fail
      go_region_held3 (fun W => Below w.heap.size w W) (first | assumption | exact Below.more (by assumption) _)
        (first
          | (go_at_call 47; refine (P1.out _ (by first | assumption | exact Below.more (by assumption) _)).mono ?_; rintro e wP ⟨⟨v, rfl, hO⟩, hbP⟩; have hgP := bnext (by first | assumption | exact Below.more (by assumption) _) hbP)
          | (go_at_call 22; refine (r2.out _ (by first | assumption | exact Below.more (by assumption) _)).mono ?_; rintro e wR ⟨rfl, hbR⟩; have hgR := bnext (by first | assumption | exact Below.more (by assumption) _) hbR)
          | (refine step_cd rfl (.tmp 20) (.tmp 25) rfl Y w.heap.size v q rfl ((hO.below hbR).alloc _) ⟨wR.heap.size, 0, none⟩ 1 rfl (new_cell wR _ _) (by omega) (Below.more hgR _).size ?_; intro g cap wF hF hbF; have hgF := (Below.more hgR _).trans hbF)
          | (refine step_cd rfl (.tmp 20) (.tmp 25) rfl Y w.heap.size v q rfl (hO.alloc _) ⟨wP.heap.size, 0, none⟩ 1 rfl (new_cell wP _ _) (by omega) (Below.more hgP _).size ?_; intro g cap wF hF hbF; have hgF := (Below.more hgP _).trans hbF)
          | (refine step_cd rfl (.tmp 20) (.tmp 25) rfl Y w.heap.size v q rfl hO ⟨wR.heap.size, 0, none⟩ 1 rfl ((hbP.cell (p := ⟨wR.heap.size, 0, none⟩) (by simp)).trans (new_cell wR _ _)) (by omega) hgP.size ?_; intro g cap wF hF hbF; have hgF := hgP.trans hbF))
      all_goals go_wp2
      all_goals go_ret
      all_goals rw [PE.out]
      all_goals exact ⟨⟨_, rfl, hF⟩, hgF⟩
    · have pl := L2.out him
      have P2 := hide (fun W (g : Below w.heap.size w W) => (p2.out W g him).mono fun e w' ⟨⟨v, h1, h2⟩, h3⟩ => (⟨⟨v, h1, h2.base g.size⟩, h3⟩ : (∃ v, e = Ending.returned v ∧ OwnS w' w.heap.size v (Dg.path (l.drop m) (i - m))) ∧ Below W.heap.size W w'))
      have PE := hide (ps.out him)
      generalize Dg.path (l.drop m) (i - m) = q at *
      clear p1 p2 pf ps L1 L2
      have hwr : IntKind.i64.wrap ((i : Int) - (m : Int)) = ((i - m : Nat) : Int) := by rw [IntWalk.i64_in _ (by omega)]; omega
      go_wp2_with fail
      go_region_held3 (fun W => Below w.heap.size w W) (first | assumption | exact Below.more (by assumption) _)
        (first
          | (go_at_call 47; refine (P2.out _ (by first | assumption | exact Below.more (by assumption) _)).mono ?_; rintro e wP ⟨⟨v, rfl, hO⟩, hbP⟩; have hgP := bnext (by first | assumption | exact Below.more (by assumption) _) hbP)
          | (go_at_call 22; refine (r1.out _ (by first | assumption | exact Below.more (by assumption) _)).mono ?_; rintro e wR ⟨rfl, hbR⟩; have hgR := bnext (by first | assumption | exact Below.more (by assumption) _) hbR)
          | (refine step_cd rfl (.tmp 33) (.tmp 38) rfl X w.heap.size v q rfl ((hO.below hbR).alloc _) ⟨wR.heap.size, 0, none⟩ 1 rfl (new_cell wR _ _) (by omega) (Below.more hgR _).size ?_; intro g cap wF hF hbF; have hgF := (Below.more hgR _).trans hbF)
          | (refine step_cd rfl (.tmp 33) (.tmp 38) rfl X w.heap.size v q rfl (hO.alloc _) ⟨wP.heap.size, 0, none⟩ 1 rfl (new_cell wP _ _) (by omega) (Below.more hgP _).size ?_; intro g cap wF hF hbF; have hgF := (Below.more hgP _).trans hbF)
          | (refine step_cd rfl (.tmp 33) (.tmp 38) rfl X w.heap.size v q rfl hO ⟨wR.heap.size, 0, none⟩ 1 rfl ((hbP.cell (p := ⟨wR.heap.size, 0, none⟩) (by simp)).trans (new_cell wR _ _)) (by omega) hgP.size ?_; intro g cap wF hF hbF; have hgF := hgP.trans hbF))
      all_goals clear hwr
      all_goals go_wp2
      all_goals go_ret
      all_goals rw [PE.out]
      all_goals exact ⟨⟨_, rfl, hF⟩, hgF⟩
end Go.Proofs.YtmmpndijfbbnnaaDoor
