import Derived.Test.YtgjmfoopnmdckaaDoorLaws1
import Derived.Deep.DeepCutAuto
namespace Go.Proofs.YtgjmfoopnmdckaaDoor
open Go Go.RowKit
theorem joined_of (A : Option Addr) (c k : Nat) (l : List ByteArray) (hk : l.length = k) (r : ByteArray) (hr : Dg.B (Dg.joinedL l) = r) (w : World) (hl : l.length ≤ 1048576) (hj : (Dg.joinedL l).length ≤ 1099511627776) (hs : ∀ s ∈ l, s.size ≤ 1048576) (hS : Strs w w.heap.size A l) :
    Calls Tryd.prog 20 #[.slice A k c] w fun e w' => e = .returned (.string r) ∧ Below w.heap.size w w' := by
  subst hr hk; exact joined_any A c l w hl hj hs hS
theorem same_of (A A' : Option Addr) (c c' : Nat) (l m : List ByteArray) (r : Bool) (hr : Dg.same l m = r) (w : World) (hl : l.length ≤ 9223372036854775807) (hl' : m.length ≤ 9223372036854775807) (hS : Strs w w.heap.size A l) (hS' : Strs w w.heap.size A' m) :
    Calls Tryd.prog 21 #[.slice A l.length c, .slice A' m.length c'] w fun e w' => e = .returned (.bool r) ∧ Below w.heap.size w w' := by
  subst hr; exact same_any A A' c c' l m w hl hl' hS hS'
theorem sumB_joined (l : List ByteArray) : Dg.sumB (Dg.B (Dg.joinedL l)) = Dg.listB l := rfl
theorem keepS {w w' : World} {A : Option Addr} {l : List ByteArray} (h : Strs w w.heap.size A l) (hb : Below w.heap.size w w') : Strs w' w'.heap.size A l := (h.below hb).more hb.size
theorem lists_facts (l m : List ByteArray) (hl : ∀ s ∈ l, s.size ≤ 1099511627776) (hm : ∀ s ∈ m, s.size ≤ 1099511627776) :
    ∃ r, Dg.same l m = r ∧ ((Dg.B (Dg.joinedL l)).toList == (Dg.B (Dg.joinedL m)).toList) = r ∧
      ((Dg.B (Dg.joinedL l)).size ≤ 7 → (Dg.B (Dg.joinedL m)).size ≤ 7 → ((Dg.listB l).toList == (Dg.listB m).toList) = r) := by
  refine ⟨_, rfl, ?_, fun h1 h2 => ?_⟩
  · rw [str_ne]
    unfold Dg.same
    exact decide_eq_decide.2 (Dg.joinedL_eq l m hl hm)
  · rw [str_ne]
    unfold Dg.same
    exact decide_eq_decide.2 ⟨Dg.listB_short l m hl hm h1 h2, fun h => by rw [h]⟩
theorem one_len1 (X : ByteArray) : [X].length ≤ 1099511627776 := by rw [List.length_singleton]; decide
theorem one_len (X : ByteArray) (h : X.size ≤ 100000) : (Dg.joinedL [X]).length ≤ 1099511627776 := by
  have := Dg.joinedL_len_le [X] 100000 (fun s hs => by rw [List.mem_singleton.1 hs]; exact h)
  rw [List.length_singleton] at this
  omega
theorem one_mem (X : ByteArray) (h : X.size ≤ 100000) : ∀ s ∈ [X], s.size ≤ 1099511627776 := fun s hs => by rw [List.mem_singleton.1 hs]; omega
theorem ext_size' (a : ByteArray) (k : Nat) (h : k ≤ a.size) : (a.extract 0 k).size = k := by
  rw [← Dg.len_L, Dg.L_extract, List.length_drop, List.length_take, Dg.len_L]; omega
/-- Two texts of k bytes, the second beginning with the first 6 of the first: the digests of the one-element lists are equal exactly if the texts are. -/
theorem one_eq (X P1 P2 two : ByteArray) (k : Nat) (hx : X.size = k) (hk : k ≤ 9) (hk2 : k ≤ two.size) (e2 : Dg.L P1 = ((Dg.L X).take (min k 6)).drop 0) (e3 : Dg.L P2 = ((Dg.L two).take k).drop (min k 6)) (h : Dg.listB [X] = Dg.listB [P1 ++ P2]) : X = P1 ++ P2 := by
  have hX := Dg.len_L X
  have ht := Dg.len_L two
  refine Dg.listB_one X (P1 ++ P2) ?_ (by omega) ?_ h
  · rw [← Dg.len_L (P1 ++ P2), Dg.L_append, e2, e3]
    simp only [List.length_append, List.length_drop, List.length_take]
    omega
  · rw [Dg.L_append, e2, e3, List.drop_zero]
    by_cases h6 : k ≤ 6
    · rw [Nat.min_eq_left h6, List.drop_of_length_le (by rw [List.length_take]; omega), List.append_nil, List.take_take, Nat.min_eq_right h6, List.take_of_length_le (by omega), List.take_of_length_le (by omega)]
    · rw [Nat.min_eq_right (by omega), List.take_append_of_le_length (by rw [List.length_take]; omega), List.take_take, Nat.min_self]
set_option maxRecDepth 100000 in
set_option maxHeartbeats 1000000 in
theorem law_lists (A : Option Addr) (c : Nat) (l : List ByteArray) (A' : Option Addr) (c' : Nat) (m : List ByteArray) (one two : ByteArray) (w : World) (he : Env w) (hl : l.length ≤ 9223372036854775807) (hls : ∀ s ∈ l, s.size ≤ 9223372036854775807) (hS : Strs w w.heap.size A l)
    (hm : m.length ≤ 9223372036854775807) (hms : ∀ s ∈ m, s.size ≤ 9223372036854775807) (hS' : Strs w w.heap.size A' m) (h1 : one.size ≤ 9223372036854775807) (h2 : two.size ≤ 9223372036854775807) :
    Calls Tryd.prog 9 #[.slice A l.length c, .slice A' m.length c', .string one, .string two] w fun e w' => e = .returned (.bool true) ∧ Below w.heap.size w w' := by
  go_enter Tryd.func9, Tryd.ntmps9
  go_wp2_with fail
  refine (head_any w he).mono ?_
  rintro e w1 ⟨rfl, hb⟩
  replace hS := keepS hS hb
  replace hS' := keepS hS' hb
  have hew := he.next hb
  go_wp2_with fail
  cases hf : Dg.few l 200 with
  | false =>
    refine (few_of A c l 200 false hf w1 hl hls hS).mono ?_
    rintro e w2 ⟨rfl, rfl⟩
    go_wp2
    go_ret
    exact ⟨rfl, hb⟩
  | true =>
    obtain ⟨b1, b2, b3⟩ := few_bounds hf
    refine (few_of A c l 200 true hf w1 hl hls hS).mono ?_
    rintro e w2 ⟨rfl, rfl⟩
    clear hf hls
    have B2 := hide b2; clear b2
    go_wp2_with fail
    cases hf : Dg.few m 200 with
    | false =>
      refine (few_of A' c' m 200 false hf w1 hm hms hS').mono ?_
      rintro e w2 ⟨rfl, rfl⟩
      go_wp2
      go_ret
      exact ⟨rfl, hb⟩
    | true =>
      obtain ⟨d1, d2, d3⟩ := few_bounds hf
      refine (few_of A' c' m 200 true hf w1 hm hms hS').mono ?_
      rintro e w2 ⟨rfl, rfl⟩
      clear hf hms
      have D2 := hide d2; clear d2
      go_wp2_with fail
      refine (joined_of A c _ l rfl _ rfl _ (by omega) (by omega) (fun s hs => by have := B2.out s hs; omega) hS).mono ?_
      rintro e w2 ⟨rfl, hb2⟩
      replace hS := keepS hS hb2
      replace hS' := keepS hS' hb2
      replace hew := hew.next hb2
      replace hb := bnext hb hb2; clear hb2
      go_wp2_with fail
      refine (joined_of A' c' _ m rfl _ rfl _ (by omega) (by omega) (fun s hs => by have := D2.out s hs; omega) hS').mono ?_
      rintro e w3 ⟨rfl, hb2⟩
      replace hS := keepS hS hb2
      replace hS' := keepS hS' hb2
      replace hew := hew.next hb2
      replace hb := bnext hb hb2; clear hb2
      go_wp2_with fail
      refine (list_of A 0 c _ l rfl _ rfl _ hew (by omega) (by omega) (fun s hs => by have := B2.out s hs; omega) hS).mono ?_
      rintro e w4 ⟨rfl, hb2⟩
      replace hS := keepS hS hb2
      replace hS' := keepS hS' hb2
      replace hew := hew.next hb2
      replace hb := bnext hb hb2; clear hb2
      go_wp2_with fail
      refine (sum_of _ (Dg.listB l) (sumB_joined l) (by rw [Dg.size_B]; omega) _).mono ?_
      rintro e w5 ⟨rfl, hb2⟩
      replace hS := keepS hS hb2
      replace hS' := keepS hS' hb2
      replace hew := hew.next hb2
      replace hb := bnext hb hb2; clear hb2
      obtain ⟨r, hr, ft, fl⟩ := lists_facts l m (fun s hs => by have := B2.out s hs; omega) (fun s hs => by have := D2.out s hs; omega)
      have FL := hide fl; clear fl
      have szl : (Dg.B (Dg.joinedL l)).size ≤ 10000 := by rw [Dg.size_B]; omega
      have szm : (Dg.B (Dg.joinedL m)).size ≤ 10000 := by rw [Dg.size_B]; omega
      go_wp2_with fail
      refine (same_of A A' c c' l m r hr _ hl hm hS hS').mono ?_
      rintro e w6 ⟨rfl, hb2⟩
      replace hS := keepS hS hb2
      replace hS' := keepS hS' hb2
      replace hew := hew.next hb2
      replace hb := bnext hb hb2; clear hb2
      generalize Dg.B (Dg.joinedL l) = Ja at *
      generalize Dg.B (Dg.joinedL m) = Jb at *
      go_upto_region 8 with (fail)
      go_cut [59] (fun v wx => v = .bool false ∧ Below w.heap.size w wx)
      case first =>
        by_cases s1 : Ja.size ≤ 7
        · by_cases s2 : Jb.size ≤ 7
          · have t2 := FL.out s1 s2
            go_wp2_with fail
            refine (list_of A 0 c _ l rfl _ rfl _ hew (by omega) (by omega) (fun s hs => by have := B2.out s hs; omega) hS).mono ?_
            rintro e w7 ⟨rfl, hb2⟩
            replace hS := keepS hS hb2
            replace hS' := keepS hS' hb2
            replace hew := hew.next hb2
            replace hb := bnext hb hb2; clear hb2
            go_wp2_with fail
            refine (list_of A' 0 c' _ m rfl _ rfl _ hew (by omega) (by omega) (fun s hs => by have := D2.out s hs; omega) hS').mono ?_
            rintro e w8 ⟨rfl, hb2⟩
            replace hS := keepS hS hb2
            replace hS' := keepS hS' hb2
            replace hb := bnext hb hb2; clear hb2
            go_wp2_with fail
            refine (same_of A A' c c' l m r hr _ hl hm hS hS').mono ?_
            rintro e w9 ⟨rfl, hb2⟩
            replace hb := bnext hb hb2; clear hb2
            go_wp2_with fail
            go_meet
            exact ⟨rfl, hb⟩
          · go_wp2_with fail
            go_meet
            exact ⟨rfl, hb⟩
        · go_wp2_with fail
          go_meet
          exact ⟨rfl, hb⟩
      case rest =>
        obtain ⟨rfl, hb⟩ := hcut
        have hew := he.next hb
        clear hS hS' hr FL
        go_upto_region 12 with (fail)
        obtain ⟨k, hk, hk9, hka, hkb⟩ : ∃ k : Nat, (if (9 : Int) < (if two.size < one.size then (two.size : Int) else (one.size : Int)) then (9 : Int) else (if two.size < one.size then (two.size : Int) else (one.size : Int))) = (k : Int) ∧ k ≤ 9 ∧ k ≤ one.size ∧ k ≤ two.size :=
          ⟨min 9 (min two.size one.size), by split <;> split <;> omega, by omega, by omega, by omega⟩
        rw [hk]
        clear hk
        rw [Int.toNat_natCast]
        have hx := ext_size' one k hka
        generalize hX : one.extract 0 k = X at *
        have HX := hide hX; clear hX
        have q1 : ((min k 6 : Nat) : Int) ≤ (X.size : Int) := by omega
        have q2 : ((min k 6 : Nat) : Int) ≤ (k : Int) := by omega
        have q3 : (k : Int) ≤ (two.size : Int) := by omega
        have hs1 : ∀ W, (Instr.slice 9 (.string X) none (some (.int .i64 (min (k : Int) 6)))  none).run Tryd.prog W = .ok (.string (X.extract 0 (min k 6))) W := fun W => by
          have := run_slice_string_to_if (P := Tryd.prog) W 9 X .i64 (min (k : Int) 6) Tryd.underlying9
          rw [this, if_pos (by omega), show (min (k : Int) 6).toNat = min k 6 by omega]
        have hs2 : ∀ W, (Instr.slice 9 (.string two) (some (.int .i64 (min (k : Int) 6))) (some (.int .i64 (k : Int))) none).run Tryd.prog W = .ok (.string (two.extract (min k 6) k)) W := fun W => by
          have := run_slice_string (P := Tryd.prog) W 9 two .i64 .i64 (min (k : Int) 6) (k : Int) Tryd.underlying9 (by omega) (by omega) (by omega)
          rw [this, show (min (k : Int) 6).toNat = min k 6 by omega, Int.toNat_natCast]
        have e1 : (X.extract 0 (min k 6)).size = min k 6 := ext_size' X _ (by omega)
        have e2 := Dg.L_extract X 0 (min k 6)
        have e3 := Dg.L_extract two (min k 6) k
        have e4 : (two.extract (min k 6) k).size ≤ 9 := by rw [← Dg.len_L, Dg.L_extract, List.length_drop, List.length_take, Dg.len_L]; omega
        generalize X.extract 0 (min k 6) = P1 at *
        generalize two.extract (min k 6) k = P2 at *
        have f1 : ¬ (9223372036854775807 < P1.size + P2.size) := by omega
        have hone := hide (fun h => one_eq X P1 P2 two k hx hk9 hkb e2 e3 h)
        have e5 : P1.size ≤ 9 := by omega
        clear q1 q2 q3 e1 e2 e3
        go_quiet (fail)
        replace hb := below_drewN hb nq
        replace hew := hew.next (below_drewN (Below.refl wc.heap.size wc) nq)
        generalize wc.drewN nq = wd at *
        go_wp2_with fail
        refine (list_of _ 0 _ 1 [X] rfl _ rfl _ (hew.alloc _) (one_len1 X) (one_len X (by omega)) (one_mem X (by omega)) (Strs.new _ _ _ _ rfl)).mono ?_
        rintro e w7 ⟨rfl, hb2⟩
        replace hew := (hew.alloc _).next hb2
        replace hb := bnextA hb hb2; clear hb2
        have f2 : (P1 ++ P2).size ≤ 9223372036854775807 := by rw [ByteArray.size_append]; omega
        have f3 : (P1 ++ P2).size ≤ 100000 := by rw [ByteArray.size_append]; omega
        generalize P1 ++ P2 = P at *
        go_wp2_with fail
        refine (list_of _ 0 _ 1 [P] rfl _ rfl _ (hew.alloc _) (one_len1 P) (one_len P f3) (one_mem P f3) (Strs.new _ _ _ _ rfl)).mono ?_
        rintro e w8 ⟨rfl, hb2⟩
        replace hb := bnextA hb hb2; clear hb2
        by_cases hXP : X = P
        · have t1 := tl_true hXP
          have t2 := tl_true (congrArg (fun x => Dg.listB [x]) hXP)
          go_wp2
          go_ret
          exact ⟨rfl, hb⟩
        · have t1 := tl_false hXP
          have t2 := tl_false (fun h => hXP (hone.out h))
          go_wp2
          go_ret
          exact ⟨rfl, hb⟩
end Go.Proofs.YtgjmfoopnmdckaaDoor
