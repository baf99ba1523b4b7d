import Derived.Test.YtgjmfoopnmdckaaDoorHead
namespace Go.Proofs.YtgjmfoopnmdckaaDoor
open Go Go.RowKit
theorem few_of (A : Option Addr) (c : Nat) (l : List ByteArray) (n : Int) (r : Bool) (hr : Dg.few l n = r) (w : World) (hl : l.length ≤ 9223372036854775807) (hs : ∀ s ∈ l, s.size ≤ 9223372036854775807) (hS : Strs w w.heap.size A l) :
    Calls Tryd.prog 11 #[.slice A l.length c, .int .i64 n] w fun e w' => e = .returned (.bool r) ∧ w = w' := by
  subst hr; exact few_any A c l n w hl hs hS
theorem few_bounds {l : List ByteArray} (h : Dg.few l 200 = true) : l.length ≤ 30 ∧ (∀ s ∈ l, s.size ≤ 200) ∧ (Dg.joinedL l).length ≤ 10000 := by
  obtain ⟨h1, h2⟩ := (Dg.few_iff l 200).1 h
  have h3 : ∀ s ∈ l, s.size ≤ 200 := fun s hs => by have := h2 s hs; omega
  have h4 := Dg.joinedL_len_le l 200 h3
  have h5 : l.length * (200 + 21) ≤ 30 * 221 := Nat.mul_le_mul h1 (Nat.le_refl _)
  exact ⟨h1, h3, by omega⟩
set_option maxHeartbeats 1000000 in
theorem law_form (s : ByteArray) (A : Option Addr) (c : Nat) (l : List ByteArray) (n : Nat) (hn : n ≤ 255) (w : World) (he : Env w) (hs : s.size ≤ 9223372036854775807) (hl : l.length ≤ 9223372036854775807) (hls : ∀ s ∈ l, s.size ≤ 9223372036854775807) (hS : Strs w w.heap.size A l) :
    Calls Tryd.prog 5 #[.string s, .slice A l.length c, .int .u8 n] w fun e w' => e = .returned (.bool true) ∧ Below w.heap.size w w' := by
  go_enter Tryd.func5, Tryd.ntmps5
  go_wp2_with fail
  refine (head_any w he).mono ?_
  rintro e w1 ⟨rfl, hb⟩
  by_cases h1 : s.size ≤ 2000
  · go_wp2_with fail
    have hS1 := (hS.below hb).more hb.size
    cases hf : Dg.few l 200 with
    | false =>
      refine (few_of A c l 200 false hf w1 hl hls hS1).mono ?_
      rintro e w2 ⟨rfl, rfl⟩
      go_wp2
      go_ret
      exact ⟨rfl, hb⟩
    | true =>
      obtain ⟨h2, h3, h4⟩ := few_bounds hf
      refine (few_of A c l 200 true hf w1 hl hls hS1).mono ?_
      rintro e w2 ⟨rfl, rfl⟩
      clear hf hls hl
      have hew := he.next hb
      go_wp2_with fail
      refine (sum_of s _ rfl (by omega) _).mono ?_
      rintro e w2 ⟨rfl, hb2⟩
      replace hb := bnext hb hb2
      have hS2 := (hS1.below hb2).more hb2.size
      replace hew := hew.next hb2; clear hb2 hS1
      go_wp2_with fail
      refine (is_of _ true (Dg.isB_sumB s) (by rw [Dg.sumB_size]; omega) _).mono ?_
      rintro e w3 ⟨rfl, hb2⟩
      replace hb := bnext hb hb2
      have hS3 := (hS2.below hb2).more hb2.size
      replace hew := hew.next hb2; clear hb2 hS2
      go_wp2_with fail
      refine (list_of A 0 c _ l rfl _ rfl _ hew (by omega) (by omega) (fun s hs => by have := h3 s hs; omega) hS3).mono ?_
      rintro e w4 ⟨rfl, hb2⟩
      replace hb := bnext hb hb2; clear hb2
      go_wp2_with fail
      refine (is_of _ true (Dg.isB_listB l) (by rw [Dg.listB, Dg.size_B, Dg.list, Dg.sum_len]; omega) _).mono ?_
      rintro e w5 ⟨rfl, hb2⟩
      replace hb := bnext hb hb2; clear hb2
      go_wp2_with fail
      refine (chain_of s _ (1 + n % 30) (by omega) _ rfl (by omega) _).mono ?_
      rintro e w6 ⟨rfl, hb2⟩
      replace hb := bnext hb hb2; clear hb2
      have hcl := Dg.chainB_le s (1 + n % 30)
      go_wp2_with fail
      refine (is_of _ true (Dg.isB_chainB s _ (by omega)) (by omega) _).mono ?_
      rintro e w7 ⟨rfl, hb2⟩
      replace hb := bnext hb hb2; clear hb2
      go_wp2
      go_ret
      exact ⟨rfl, hb⟩
  · go_wp2
    go_ret
    exact ⟨rfl, hb⟩
end Go.Proofs.YtgjmfoopnmdckaaDoor
