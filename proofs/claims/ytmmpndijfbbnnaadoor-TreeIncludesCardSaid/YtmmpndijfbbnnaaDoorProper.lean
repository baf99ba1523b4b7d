/- slices.Clone of strings; all are digests: slices.ContainsFunc at tree.digests, walked. -/
import Derived.Test.YtmmpndijfbbnnaaDoorRDig
import Derived.Test.YtmmpndijfbbnnaaDoorLink
namespace Go.Proofs.YtmmpndijfbbnnaaDoor
open Go Go.RowKit Go.Sort
theorem clone_any (A : Option Addr) (n c : Nat) (l : List ByteArray) (w : World) (hn : l.length = n) (hb : n ≤ 1099511627776) (hS : Strs w w.heap.size A l) :
    Calls Tryd.prog 54 #[.slice A n c] w fun e w' => ∃ v', e = .returned v' ∧ OwnS w' w.heap.size v' l ∧ Below w.heap.size w w' := by
  subst hn
  have nilS : ∀ W, OwnS W w.heap.size (.slice none 0 0) [] := fun W => OwnS.nil _ _
  by_cases h0 : l.length = 0
  · obtain rfl : l = [] := List.length_eq_zero_iff.1 h0
    cases A with
    | none =>
      refine (Tryd.slices_Clone_string_nil 0 c w).mono ?_
      rintro e w' ⟨rfl, rfl⟩
      exact ⟨_, rfl, nilS _, Below.refl _ _⟩
    | some a =>
      refine (Tryd.slices_Clone_string_zero a c w).mono ?_
      rintro e w' ⟨v', rfl, ho, _, hB⟩
      exact ⟨v', rfl, ho, hB⟩
  · obtain ⟨b, off, rfl, hbl, hcell⟩ := hS.at_ (by omega)
    refine (Tryd.slices_Clone_string b off l.length c l w (Nat.le_refl _) (by omega) (fun j hj => ?_)).mono ?_
    · rw [hcell j l[j] (List.getElem?_eq_getElem hj), List.getD_eq_getElem?_getD, List.getElem?_eq_getElem hj]; rfl
    · rintro e w' ⟨v', rfl, ho, _, hB⟩
      refine ⟨v', rfl, ?_, hB⟩
      rw [List.take_length] at ho
      unfold OwnS OwnV
      rw [List.length_map]
      exact ho
theorem bnot_of {a b : Bool} (h : a = b) : (!a) = !b := by rw [h]
theorem notdig_any (s : ByteArray) (r : Bool) (hr : Dg.isB s = r) (hs : s.size ≤ 4611686018427387904) (w : World) :
    Calls Tryd.prog 87 #[.string s] w fun e w' => e = .returned (.bool (!r)) ∧ Below w.heap.size w w' := by
  go_enter Tryd.func87, Tryd.ntmps87
  go_wp2_with fail
  refine (is_of s r hr hs w).mono ?_
  rintro e w1 ⟨rfl, hb⟩
  clear hr
  go_wp2
  go_ret
  exact ⟨rfl, hb⟩
/-- Where the first string lies that is no digest; -1. -/
def idxBad (l : List ByteArray) (k : Nat) (R : Int) : Prop := (R = -1 ∧ ∀ s ∈ l, Dg.isB s = true) ∨ (0 ≤ R ∧ R = k ∧ ∃ s ∈ l, Dg.isB s = false)
set_option maxHeartbeats 400000 in
theorem index_any (A : Option Addr) (c n : Nat) (l : List ByteArray) (R : Bool) (hR : allDig l = R) (w : World) (hl : l.length = n) (hn : n ≤ 1099511627776) (hs : ∀ s ∈ l, s.size ≤ 4611686018427387904) (hr : Strs w w.heap.size A l) :
    Calls Tryd.prog 108 #[.slice A n c, .func (.func 87) #[] #[]] w fun e w' => (∃ k : Int, e = .returned (.int .i64 k) ∧ decide (k ≥ 0) = !R) ∧ Below w.heap.size w w' := by
  subst hl
  have HR := hide hR; clear hR
  go_enter Tryd.func108, Tryd.ntmps108
  go_wp2
  go_loopw [8] (fun i wr => ∃ k : Nat, k ≤ l.length ∧ i = .int .i64 k ∧ Below w.heap.size w wr ∧ Hid (∀ s ∈ l.take k, Dg.isB s = true)) (fun i _ => l.length - (intOf i).toNat)
  case atStart => exact ⟨0, by omega, rfl, Below.refl _ _, by unfold Hid; simp⟩
  case round =>
    obtain ⟨k, hk, rfl, hb, hall⟩ := hrel
    by_cases hlt : k < l.length
    · obtain ⟨b, off, rfl, hbl, hcell⟩ := (hr.below hb).get hlt
      have hsz := hs l[k] (List.getElem_mem hlt)
      have hts := hide (List.take_succ_eq_append_getElem hlt)
      have hm := hide (List.getElem_mem hlt)
      generalize l[k] = x at *
      go_wp2_with fail
      cases hx : Dg.isB x with
      | true =>
        refine (notdig_any x true hx hsz _).mono ?_
        rintro e w1 ⟨rfl, hb1⟩
        have hb2 := bnext hb hb1
        have hx' := hide hx; clear hx
        go_wp2
        go_roundw
        case rel =>
          refine ⟨k + 1, by omega, by go_num, hb2, ?_⟩
          unfold Hid
          rw [hts.out]
          intro s hs'
          rcases List.mem_append.1 hs' with h | h
          · exact hall.out s h
          · obtain rfl : s = x := by simpa using h
            exact hx'.out
        case measure => simp [intOf]; omega
      | false =>
        refine (notdig_any x false hx hsz _).mono ?_
        rintro e w1 ⟨rfl, hb1⟩
        have hb2 := bnext hb hb1
        have hx' := hide hx; clear hx
        go_wp2
        go_ret
        have := (allDig_no l x hm.out hx'.out).symm.trans HR.out
        subst this
        exact ⟨⟨_, rfl, by simp⟩, hb2⟩
    · obtain rfl : k = l.length := by omega
      go_wp2
      go_ret
      have h := hall.out
      rw [List.take_length] at h
      have := (allDig_yes l h).symm.trans HR.out
      subst this
      exact ⟨⟨_, rfl, by simp⟩, hb⟩
theorem contains_any (A : Option Addr) (c n : Nat) (l : List ByteArray) (R : Bool) (hR : allDig l = R) (w : World) (hl : l.length = n) (hn : n ≤ 1099511627776) (hs : ∀ s ∈ l, s.size ≤ 4611686018427387904) (hr : Strs w w.heap.size A l) :
    Calls Tryd.prog 86 #[.slice A n c, .func (.func 87) #[] #[]] w fun e w' => e = .returned (.bool (!R)) ∧ Below w.heap.size w w' := by
  go_enter Tryd.func86, Tryd.ntmps86
  go_wp2_with fail
  refine (index_any A c n l R hR w hl hn hs hr).mono ?_
  rintro e w1 ⟨⟨k, rfl, hk⟩, hb⟩
  have hk' := hide hk; clear hk hR
  go_wp2
  go_ret
  exact ⟨ret_bool (by have := hk'.out; simpa using this), hb⟩
theorem proper_any (A : Option Addr) (c n : Nat) (l : List ByteArray) (R : Bool) (hR : allDig l = R) (w : World) (hl : l.length = n) (hn : n ≤ 1099511627776) (hs : ∀ s ∈ l, s.size ≤ 4611686018427387904) (hr : Strs w w.heap.size A l) :
    Calls Tryd.prog 55 #[.slice A n c] w fun e w' => e = .returned (.bool R) ∧ Below w.heap.size w w' := by
  go_enter Tryd.func55, Tryd.ntmps55
  go_wp2_with fail
  refine (contains_any A c n l R hR w hl hn hs hr).mono ?_
  rintro e w1 ⟨rfl, hb⟩
  clear hR
  go_wp2
  go_ret
  exact ⟨ret_bool (by simp), hb⟩
end Go.Proofs.YtmmpndijfbbnnaaDoor
