/- Path and Link of the reference. -/
import Derived.Test.YtmmpndijfbbnnaaDoorRPath
namespace Go.Proofs.YtmmpndijfbbnnaaDoor
open Go Go.RowKit Go.Sort
theorem own_new (w : World) (s : ByteArray) (B : Nat) (hB : B ≤ w.heap.size) : OwnS (w.alloc (.cells #[.string s] 9)) B (.slice (some ⟨w.heap.size, 0, none⟩) 1 1) [s] :=
  ⟨rfl, Or.inr ⟨w.heap.size, 1, #[.string s], rfl, hB, heap_alloc_new w _, Nat.le_refl _, by unfold maxLen; omega, rfl, rfl⟩⟩
theorem link_le (n : Nat) (l : List ByteArray) (m : Nat) (w : Bool) (hl : l.length = n) (h1 : 1 ≤ m) (hm : m ≤ n) : (Dg.link l m w).length ≤ n := by
  rw [Dg.link_len n l m w hl h1 hm]; exact long_le n m w h1 hm
set_option maxRecDepth 100000 in
set_option maxHeartbeats 1000000 in
theorem rlink_any (n : Nat) : ∀ (A : Option Addr) (c : Nat) (l : List ByteArray) (i : Nat) (wh : Bool) (w : World), l.length = n → n ≤ c → 1 ≤ i → i ≤ n → n ≤ 1048576 → (∀ s ∈ l, s.size ≤ 1048576) → Strs w w.heap.size A l →
    Calls Tryd.prog 48 #[.slice A n c, .int .i64 i, .bool wh] w fun e w' => (∃ v, e = .returned v ∧ OwnS w' w.heap.size v (Dg.link l i wh)) ∧ Below w.heap.size w w' := by
  induction n using Nat.strongRecOn with
  | _ n ih =>
  intro A c l i wh w hl hc h1 hi hn hs hS
  go_enter Tryd.func48, Tryd.ntmps48
  by_cases hone : i = n
  · subst hone
    have la := hide (Dg.link_all l wh)
    rw [hl] at la
    have hiW := hide (rroot_of i A c l _ w hl rfl hc hn hs hS)
    clear ih hs
    cases wh with
    | true =>
      go_wp2
      go_ret
      rw [la.out]
      exact ⟨⟨_, rfl, OwnS.nil _ _⟩, Below.refl _ _⟩
    | false =>
      generalize Dg.root l = X at *
      go_wp2_with fail
      refine hiW.out.mono ?_
      rintro e w1 ⟨rfl, hb1⟩
      go_wp2
      go_ret
      rw [la.out]
      exact ⟨⟨_, rfl, own_new w1 X _ hb1.size⟩, hb1.alloc hb1.size _⟩
  · have g1 := Dg.half_pos n
    have g2 := Dg.half_lt n (by omega)
    have n1 : ((i : Int) == (n : Int)) = false := by simpa using (show ¬ (i : Int) = n by omega)
    have pf := hide (fun h => Dg.link_fst l i wh h1 (by omega) h)
    have ps := hide (fun h => Dg.link_snd l i wh (by omega) h)
    rw [hl] at pf ps
    have HS := hide hs; clear hs
    have r1 := hide (fun (W : World) (g : Below w.heap.size w W) => (rroot_of (Dg.half n) A c (l.take (Dg.half n)) _ W (by rw [List.length_take]; omega) rfl (by omega) (by omega) (fun s hs' => HS.out s (List.mem_of_mem_take hs')) (keepS (hS.take _) g)))
    have r2 := hide (fun (W : World) (g : Below w.heap.size w W) => (rroot_of (n - Dg.half n) (offA A (Dg.half n) c) (c - Dg.half n) (l.drop (Dg.half n)) _ W (by rw [List.length_drop, hl]) rfl (by omega) (by omega) (fun s hs' => HS.out s (List.mem_of_mem_drop hs')) (keepS (hS.drop (by omega) _) g)))
    have p1 := hide (fun (W : World) (g : Below w.heap.size w W) (h : i ≤ Dg.half n) => (ih (Dg.half n) g2 A c (l.take (Dg.half n)) i wh W (by rw [List.length_take]; omega) (by omega) h1 h (by omega) (fun s hs' => HS.out s (List.mem_of_mem_take hs')) (keepS (hS.take _) g)))
    have p2 := hide (fun (W : World) (g : Below w.heap.size w W) (h : ¬ i ≤ Dg.half n) => (ih (n - Dg.half n) (by omega) (offA A (Dg.half n) c) (c - Dg.half n) (l.drop (Dg.half n)) (i - Dg.half n) false W (by rw [List.length_drop, hl]) (by omega) (by omega) (by omega) (by omega) (fun s hs' => HS.out s (List.mem_of_mem_drop hs')) (keepS (hS.drop (by omega) _) g)))
    have l1 : i ≤ Dg.half n → (Dg.link (l.take (Dg.half n)) i wh).length ≤ 1048576 := fun h => by have := link_le (Dg.half n) (l.take (Dg.half n)) i wh (by rw [List.length_take]; omega) h1 h; omega
    have l2 : ¬ i ≤ Dg.half n → (Dg.link (l.drop (Dg.half n)) (i - Dg.half n) false).length ≤ 1048576 := fun h => by have := link_le (n - Dg.half n) (l.drop (Dg.half n)) (i - Dg.half n) false (by rw [List.length_drop, hl]) (by omega) (by omega); omega
    have L1 := hide l1; have L2 := hide l2; clear l1 l2
    clear ih hS
    go_wp2_with fail
    refine (rhalf_any n (by omega) _).mono ?_
    rintro e w1 ⟨rfl, rfl⟩
    generalize Dg.half n = m at *
    generalize Dg.root (l.take m) = X at *
    generalize Dg.root (l.drop m) = Y at *
    have s1 := slice_to A n c m (by omega)
    have s2 := slice_from A n c m (by omega)
    have hdr : Below w.heap.size w w.drew := (Below.refl _ _).drew
    by_cases him : i ≤ m
    · have pl := L1.out him
      have P1 := hide (fun W (g : Below w.heap.size w W) => (p1.out W g him).mono fun e w' ⟨⟨v, h1, h2⟩, h3⟩ => (⟨⟨v, h1, h2.base g.size⟩, h3⟩ : (∃ v, e = Ending.returned v ∧ OwnS w' w.heap.size v (Dg.link (l.take m) i wh)) ∧ Below W.heap.size W w'))
      have PE := hide (pf.out him)
      generalize Dg.link (l.take m) i wh = q at *
      clear p1 p2 pf ps L1 L2
      go_wp2_with fail
      go_region_held3 (fun W => Below w.heap.size w W) (first | assumption | exact Below.more (by assumption) _)
        (first
          | (go_at_call 48; refine (P1.out _ (by first | assumption | exact Below.more (by assumption) _)).mono ?_; rintro e wP ⟨⟨v, rfl, hO⟩, hbP⟩; have hgP := bnext (by first | assumption | exact Below.more (by assumption) _) hbP)
          | (go_at_call 22; refine (r2.out _ (by first | assumption | exact Below.more (by assumption) _)).mono ?_; rintro e wR ⟨rfl, hbR⟩; have hgR := bnext (by first | assumption | exact Below.more (by assumption) _) hbR)
          | (refine step_cd rfl (.tmp 28) (.tmp 33) rfl Y w.heap.size v q rfl ((hO.below hbR).alloc _) ⟨wR.heap.size, 0, none⟩ 1 rfl (new_cell wR _ _) (by omega) (Below.more hgR _).size ?_; intro g cap wF hF hbF; have hgF := (Below.more hgR _).trans hbF)
          | (refine step_cd rfl (.tmp 28) (.tmp 33) rfl Y w.heap.size v q rfl (hO.alloc _) ⟨wP.heap.size, 0, none⟩ 1 rfl (new_cell wP _ _) (by omega) (Below.more hgP _).size ?_; intro g cap wF hF hbF; have hgF := (Below.more hgP _).trans hbF)
          | (refine step_cd rfl (.tmp 28) (.tmp 33) rfl Y w.heap.size v q rfl hO ⟨wR.heap.size, 0, none⟩ 1 rfl ((hbP.cell (p := ⟨wR.heap.size, 0, none⟩) (by simp)).trans (new_cell wR _ _)) (by omega) hgP.size ?_; intro g cap wF hF hbF; have hgF := hgP.trans hbF))
      all_goals go_wp2
      all_goals go_ret
      all_goals rw [PE.out]
      all_goals exact ⟨⟨_, rfl, hF⟩, hgF⟩
    · have pl := L2.out him
      have P2 := hide (fun W (g : Below w.heap.size w W) => (p2.out W g him).mono fun e w' ⟨⟨v, h1, h2⟩, h3⟩ => (⟨⟨v, h1, h2.base g.size⟩, h3⟩ : (∃ v, e = Ending.returned v ∧ OwnS w' w.heap.size v (Dg.link (l.drop m) (i - m) false)) ∧ Below W.heap.size W w'))
      have PE := hide (ps.out him)
      generalize Dg.link (l.drop m) (i - m) false = q at *
      clear p1 p2 pf ps L1 L2
      have hwr : IntKind.i64.wrap ((i : Int) - (m : Int)) = ((i - m : Nat) : Int) := by rw [IntWalk.i64_in _ (by omega)]; omega
      go_wp2_with fail
      go_region_held3 (fun W => Below w.heap.size w W) (first | assumption | exact Below.more (by assumption) _)
        (first
          | (go_at_call 48; refine (P2.out _ (by first | assumption | exact Below.more (by assumption) _)).mono ?_; rintro e wP ⟨⟨v, rfl, hO⟩, hbP⟩; have hgP := bnext (by first | assumption | exact Below.more (by assumption) _) hbP)
          | (go_at_call 22; refine (r1.out _ (by first | assumption | exact Below.more (by assumption) _)).mono ?_; rintro e wR ⟨rfl, hbR⟩; have hgR := bnext (by first | assumption | exact Below.more (by assumption) _) hbR)
          | (refine step_cd rfl (.tmp 41) (.tmp 46) rfl X w.heap.size v q rfl ((hO.below hbR).alloc _) ⟨wR.heap.size, 0, none⟩ 1 rfl (new_cell wR _ _) (by omega) (Below.more hgR _).size ?_; intro g cap wF hF hbF; have hgF := (Below.more hgR _).trans hbF)
          | (refine step_cd rfl (.tmp 41) (.tmp 46) rfl X w.heap.size v q rfl (hO.alloc _) ⟨wP.heap.size, 0, none⟩ 1 rfl (new_cell wP _ _) (by omega) (Below.more hgP _).size ?_; intro g cap wF hF hbF; have hgF := (Below.more hgP _).trans hbF)
          | (refine step_cd rfl (.tmp 41) (.tmp 46) rfl X w.heap.size v q rfl hO ⟨wR.heap.size, 0, none⟩ 1 rfl ((hbP.cell (p := ⟨wR.heap.size, 0, none⟩) (by simp)).trans (new_cell wR _ _)) (by omega) hgP.size ?_; intro g cap wF hF hbF; have hgF := hgP.trans hbF))
      all_goals clear hwr
      all_goals go_wp2
      all_goals go_ret
      all_goals rw [PE.out]
      all_goals exact ⟨⟨_, rfl, hF⟩, hgF⟩
theorem rPath_any (A : Option Addr) (c n : Nat) (l : List ByteArray) (i : Nat) (w : World) (hl : l.length = n) (hc : n ≤ c) (hn : n ≤ 1048576) (hs : ∀ s ∈ l, s.size ≤ 1048576) (hS : Strs w w.heap.size A l) (hi : i < n) :
    Calls Tryd.prog 18 #[.slice A n c, .int .i64 i] w fun e w' => ∃ A c n, e = .returned (.tuple #[.slice A n c, .int .i64 0]) ∧ (Dg.path l i).length = n ∧ n ≤ c ∧ Strs w' w'.heap.size A (Dg.path l i) ∧ Below w.heap.size w w' := by
  have HP := hide (rpath_any n A c l i w hl hc (by omega) hi hn hs hS)
  clear hs
  generalize Dg.path l i = q at *
  have k1 : ¬ (n ≤ i) := by omega
  have k2 : ¬ ((i : Int) < 0) := by omega
  have k3 : ¬ ((n : Int) ≤ (i : Int)) := by omega
  go_enter Tryd.func18, Tryd.ntmps18
  go_wp2_with fail
  refine HP.out.mono ?_
  rintro e w1 ⟨⟨v, rfl, hO⟩, hb⟩
  obtain ⟨A1, c1, rfl, hc1, hS1⟩ := hO.strs
  clear hO HP
  go_wp2
  go_ret2
  exact ⟨_, _, _, rfl, rfl, hc1, hS1, hb⟩
theorem rPath_bad (A : Option Addr) (c n : Nat) (i : Int) (w : World) (hi : i < 0 ∨ n ≤ i) :
    Calls Tryd.prog 18 #[.slice A n c, .int .i64 i] w fun e w' => e = .returned (.tuple #[.slice none 0 0, .int .i64 1]) ∧ w = w' := by
  go_enter Tryd.func18, Tryd.ntmps18
  by_cases k2 : i < 0
  · go_wp2
    go_ret2
    exact ⟨rfl, rfl⟩
  · have k1 : (n : Int) ≤ i := by omega
    go_wp2
    go_ret2
    exact ⟨rfl, rfl⟩
/-- What Link hands back: nothing for none and for all. -/
def linkL (l : List ByteArray) (m : Nat) : List ByteArray := if m = 0 then [] else Dg.link l m true
theorem linkL_zero (l : List ByteArray) : linkL l 0 = [] := rfl
theorem linkL_pos (l : List ByteArray) (m : Nat) (h : m ≠ 0) : linkL l m = Dg.link l m true := if_neg h
theorem linkL_all (l : List ByteArray) : linkL l l.length = [] := by
  unfold linkL
  split
  · rfl
  · rw [Dg.link_all]; rfl
theorem rLink_any (A : Option Addr) (c n : Nat) (l : List ByteArray) (i : Nat) (w : World) (hl : l.length = n) (hc : n ≤ c) (hn : n ≤ 1048576) (hs : ∀ s ∈ l, s.size ≤ 1048576) (hS : Strs w w.heap.size A l) (hi : i ≤ n) :
    Calls Tryd.prog 20 #[.slice A n c, .int .i64 i] w fun e w' => ∃ A c n, e = .returned (.tuple #[.slice A n c, .int .i64 0]) ∧ (linkL l i).length = n ∧ n ≤ c ∧ Strs w' w'.heap.size A (linkL l i) ∧ Below w.heap.size w w' := by
  have k1 : ¬ (n < i) := by omega
  have k2 : ¬ ((i : Int) < 0) := by omega
  have k3 : ¬ ((n : Int) < (i : Int)) := by omega
  go_enter Tryd.func20, Tryd.ntmps20
  by_cases h0 : i = 0
  · subst h0
    clear hs
    go_wp2
    go_ret2
    exact ⟨none, 0, 0, rfl, rfl, Nat.le_refl _, Strs.nil _ _ _, Below.refl _ _⟩
  · by_cases h1 : i = n
    · have e := linkL_all l
      rw [hl, ← h1] at e
      rw [e]
      clear hs e hl
      subst h1
      go_wp2
      go_ret2
      exact ⟨none, 0, 0, rfl, rfl, Nat.le_refl _, Strs.nil _ _ _, Below.refl _ _⟩
    · have HP := hide (rlink_any n A c l i true w hl hc (by omega) hi hn hs hS)
      clear hs
      rw [linkL_pos l i h0]
      generalize Dg.link l i true = q at *
      have k4 : ((i : Int) == 0) = false := by simpa using h0
      have k5 : ((i : Int) == (n : Int)) = false := by simpa using (show ¬ (i : Int) = n by omega)
      go_wp2_with fail
      refine HP.out.mono ?_
      rintro e w1 ⟨⟨v, rfl, hO⟩, hb⟩
      obtain ⟨A1, c1, rfl, hc1, hS1⟩ := hO.strs
      clear hO HP
      go_wp2
      go_ret2
      exact ⟨_, _, _, rfl, rfl, hc1, hS1, hb⟩
theorem rLink_bad (A : Option Addr) (c n : Nat) (i : Int) (w : World) (hi : i < 0 ∨ n < i) :
    Calls Tryd.prog 20 #[.slice A n c, .int .i64 i] w fun e w' => e = .returned (.tuple #[.slice none 0 0, .int .i64 1]) ∧ w = w' := by
  go_enter Tryd.func20, Tryd.ntmps20
  by_cases k2 : i < 0
  · go_wp2
    go_ret2
    exact ⟨rfl, rfl⟩
  · have k1 : (n : Int) < i := by omega
    go_wp2
    go_ret2
    exact ⟨rfl, rfl⟩
theorem Link_bad (A : Option Addr) (c n : Nat) (i : Int) (w : World) (hi : i < 0 ∨ n < i) :
    Calls Tryd.prog 19 #[.slice A n c, .int .i64 i] w fun e w' => e = .returned (.tuple #[.slice none 0 0, .int .i64 1]) ∧ w = w' := by
  go_enter Tryd.func19, Tryd.ntmps19
  by_cases k2 : i < 0
  · go_wp2
    go_ret2
    exact ⟨rfl, rfl⟩
  · have k1 : (n : Int) < i := by omega
    go_wp2
    go_ret2
    exact ⟨rfl, rfl⟩
theorem Link_any (A : Option Addr) (c n : Nat) (l : List ByteArray) (i : Nat) (w : World) (hl : l.length = n) (he : Env w) (hc : n ≤ c) (hn : n ≤ 1048576) (hs : ∀ s ∈ l, s.size ≤ 1073741824) (hS : Strs w w.heap.size A l) (hi : i ≤ n) :
    Calls Tryd.prog 19 #[.slice A n c, .int .i64 i] w fun e w' => ∃ A c n, e = .returned (.tuple #[.slice A n c, .int .i64 0]) ∧ (linkL l i).length = n ∧ n ≤ c ∧ Strs w' w'.heap.size A (linkL l i) ∧ Below w.heap.size w w' := by
  by_cases h0 : i = 0
  · have k1 : ¬ (n < i) := by omega
    have k2 : ¬ ((i : Int) < 0) := by omega
    have k3 : ¬ ((n : Int) < (i : Int)) := by omega
    go_enter Tryd.func19, Tryd.ntmps19
    subst h0
    clear hs
    go_wp2
    go_ret2
    exact ⟨none, 0, 0, rfl, rfl, Nat.le_refl _, Strs.nil _ _ _, Below.refl _ _⟩
  · rw [linkL_pos l i h0]
    exact link_any A c n l i w hl he hc hn hs hS hi (by omega)
end Go.Proofs.YtmmpndijfbbnnaaDoor
