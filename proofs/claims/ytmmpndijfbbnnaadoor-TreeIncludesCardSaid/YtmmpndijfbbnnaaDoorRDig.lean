/- digests of the reference. -/
import Derived.Test.YtmmpndijfbbnnaaDoorRUp
namespace Go.Proofs.YtmmpndijfbbnnaaDoor
open Go Go.RowKit Go.Sort
def allDig (l : List ByteArray) : Bool := l.all Dg.isB
theorem allDig_no (l : List ByteArray) (x : ByteArray) (h : x ∈ l) (hx : Dg.isB x = false) : allDig l = false := by
  unfold allDig
  rw [List.all_eq_false]
  exact ⟨x, h, by rw [hx]; decide⟩
theorem allDig_yes (l : List ByteArray) (h : ∀ x ∈ l, Dg.isB x = true) : allDig l = true := List.all_eq_true.2 h
theorem ris_of (s : ByteArray) (r : Bool) (hr : Dg.isB s = r) (hs : s.size ≤ 4611686018427387904) (w : World) :
    Calls Tryd.prog 89 #[.string s] w fun e w' => e = .returned (.bool r) ∧ Below w.heap.size w w' := by
  subst hr
  exact (ris_any s hs w).mono fun e w' ⟨h1, h2⟩ => ⟨h1, by subst h2; exact Below.refl _ _⟩
set_option maxHeartbeats 400000 in
theorem rdigests_any (A : Option Addr) (c n : Nat) (l : List ByteArray) (R : Bool) (hR : allDig l = R) (w : World) (hl : l.length = n) (hn : n ≤ 1099511627776) (hs : ∀ s ∈ l, s.size ≤ 4611686018427387904) (hr : Strs w w.heap.size A l) :
    Calls Tryd.prog 60 #[.slice A n c] w fun e w' => e = .returned (.bool R) ∧ Below w.heap.size w w' := by
  subst hl
  have HR := hide hR; clear hR
  go_enter Tryd.func60, Tryd.ntmps60
  go_wp2
  go_loopw [3] (fun i wr => ∃ k : Nat, k ≤ l.length ∧ i = .int .i64 k ∧ Below w.heap.size w wr ∧ Hid (∀ s ∈ l.take k, Dg.isB s = true)) (fun i _ => l.length - (intOf i).toNat)
  case atStart => exact ⟨0, by omega, rfl, Below.refl _ _, by unfold Hid; simp⟩
  case round =>
    obtain ⟨k, hk, rfl, hb, hall⟩ := hrel
    by_cases hlt : k < l.length
    · obtain ⟨b, off, rfl, hbl, hcell⟩ := (hr.below hb).get hlt
      have hsz := hs l[k] (List.getElem_mem hlt)
      have hts := hide (List.take_succ_eq_append_getElem hlt)
      have hm := hide (List.getElem_mem hlt)
      generalize l[k] = x at *
      go_wp2_with fail
      cases hx : Dg.isB x with
      | true =>
        refine (ris_of x true hx hsz _).mono ?_
        rintro e w1 ⟨rfl, hb1⟩
        have hb2 := bnext hb hb1
        have hx' := hide hx; clear hx
        go_wp2
        go_roundw
        case rel =>
          refine ⟨k + 1, by omega, by go_num, hb2, ?_⟩
          unfold Hid
          rw [hts.out]
          intro s hs'
          rcases List.mem_append.1 hs' with h | h
          · exact hall.out s h
          · obtain rfl : s = x := by simpa using h
            exact hx'.out
        case measure => simp [intOf]; omega
      | false =>
        refine (ris_of x false hx hsz _).mono ?_
        rintro e w1 ⟨rfl, hb1⟩
        have hb2 := bnext hb hb1
        have hx' := hide hx; clear hx
        go_wp2
        go_ret
        exact ⟨ret_bool ((allDig_no l x hm.out hx'.out).symm.trans HR.out), hb2⟩
    · obtain rfl : k = l.length := by omega
      go_wp2
      go_ret
      have h := hall.out
      rw [List.take_length] at h
      exact ⟨ret_bool ((allDig_yes l h).symm.trans HR.out), hb⟩
end Go.Proofs.YtmmpndijfbbnnaaDoor
