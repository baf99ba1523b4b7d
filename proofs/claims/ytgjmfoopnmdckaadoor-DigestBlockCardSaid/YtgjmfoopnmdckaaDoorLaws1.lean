import Derived.Test.YtgjmfoopnmdckaaDoorLawForm
namespace Go.Proofs.YtgjmfoopnmdckaaDoor
open Go Go.RowKit
theorem rsum_of (s r : ByteArray) (hr : Dg.sumB s = r) (hs : s.size ≤ 4611686018427387904) (w : World) :
    Calls Tryd.prog 13 #[.string s] w fun e w' => e = .returned (.string r) ∧ w = w' := by
  subst hr; exact rsum_any s hs w
theorem rchain_of (s : ByteArray) (n : Int) (k : Nat) (hk : (min n 1000).toNat = k) (r : ByteArray) (hr : Dg.chainB s k = r) (hs : s.size ≤ 4611686018427387000) (w : World) :
    Calls Tryd.prog 17 #[.string s, .int .i64 n] w fun e w' => e = .returned (.string r) ∧ w = w' := by
  subst hr hk; exact rchain_any s hs n w
theorem ris_of (s : ByteArray) (r : Bool) (hr : Dg.isB s = r) (hs : s.size ≤ 4611686018427387904) (w : World) :
    Calls Tryd.prog 19 #[.string s] w fun e w' => e = .returned (.bool r) ∧ w = w' := by
  subst hr; exact ris_any s hs w
theorem rlist_of (A : Option Addr) (c k : Nat) (l : List ByteArray) (hk : l.length = k) (r : ByteArray) (hr : Dg.listB l = r) (w : World) (hl : l.length ≤ 1048576) (hj : (Dg.joinedL l).length ≤ 1099511627776) (hs : ∀ s ∈ l, s.size ≤ 1048576) (hS : Strs w w.heap.size A l) :
    Calls Tryd.prog 15 #[.slice A k c] w fun e w' => e = .returned (.string r) ∧ Below w.heap.size w w' := by
  subst hr hk; exact rlist_any A c l w hl hj hs hS
set_option maxHeartbeats 1000000 in
theorem law_long (s : ByteArray) (n : Int) (w : World) (he : Env w) (hs : s.size ≤ 9223372036854775807) :
    Calls Tryd.prog 4 #[.string s, .int .i64 n] w fun e w' => e = .returned (.bool true) ∧ Below w.heap.size w w' := by
  go_enter Tryd.func4, Tryd.ntmps4
  go_wp2_with fail
  refine (head_any w he).mono ?_
  rintro e w1 ⟨rfl, hb⟩
  by_cases h1 : s.size ≤ 200
  · by_cases h2 : n ≤ 1000
    · go_wp2
      go_ret
      exact ⟨rfl, hb⟩
    · go_wp2_with fail
      refine (chain_of s n 1000 (by omega) _ rfl (by omega) _).mono ?_
      rintro e w2 ⟨rfl, hb2⟩
      replace hb := bnext hb hb2; clear hb2
      go_wp2_with fail
      refine (rchain_of s _ 1000 (by omega) _ rfl (by omega) _).mono ?_
      rintro e w3 ⟨rfl, rfl⟩
      go_wp2
      go_ret
      exact ⟨rfl, hb⟩
  · go_wp2
    go_ret
    exact ⟨rfl, hb⟩
set_option maxHeartbeats 1000000 in
theorem law_chains (s : ByteArray) (m n : Nat) (hm : m ≤ 255) (hn : n ≤ 255) (w : World) (he : Env w) (hs : s.size ≤ 9223372036854775807) :
    Calls Tryd.prog 8 #[.string s, .int .u8 m, .int .u8 n] w fun e w' => e = .returned (.bool true) ∧ Below w.heap.size w w' := by
  go_enter Tryd.func8, Tryd.ntmps8
  go_wp2_with fail
  refine (head_any w he).mono ?_
  rintro e w1 ⟨rfl, hb⟩
  by_cases h1 : s.size ≤ 2000
  · go_wp2_with fail
    have hcl := Dg.chainB_le s (m % 51)
    refine (chain_of s _ (m % 51) (by omega) _ rfl (by omega) _).mono ?_
    rintro e w2 ⟨rfl, hb2⟩
    replace hb := bnext hb hb2; clear hb2
    go_wp2_with fail
    refine (chain_of _ _ (n % 51) (by omega) _ (Dg.chainB_add s (m % 51) (n % 51)) (by omega) _).mono ?_
    rintro e w3 ⟨rfl, hb2⟩
    replace hb := bnext hb hb2; clear hb2
    go_wp2_with fail
    refine (chain_of s _ (m % 51 + n % 51) (by omega) _ rfl (by omega) _).mono ?_
    rintro e w4 ⟨rfl, hb2⟩
    replace hb := bnext hb hb2; clear hb2
    go_wp2
    go_ret
    exact ⟨rfl, hb⟩
  · go_wp2
    go_ret
    exact ⟨rfl, hb⟩
theorem cut7 (a : ByteArray) : (a.extract 0 (min (↑a.size) 7 : Int).toNat).size ≤ 7 := by
  rw [← Dg.len_L, Dg.L_extract, List.length_drop, List.length_take]; omega
set_option maxHeartbeats 1000000 in
theorem law_short (a b : ByteArray) (w : World) (he : Env w) (ha : a.size ≤ 9223372036854775807) (hb0 : b.size ≤ 9223372036854775807) :
    Calls Tryd.prog 6 #[.string a, .string b] w fun e w' => e = .returned (.bool true) ∧ Below w.heap.size w w' := by
  go_enter Tryd.func6, Tryd.ntmps6
  go_wp2_with fail
  refine (head_any w he).mono ?_
  rintro e w1 ⟨rfl, hb⟩
  go_wp2_with fail
  have hla := cut7 a
  have hlb := cut7 b
  generalize a.extract 0 (min (↑a.size) 7 : Int).toNat = x at *
  generalize b.extract 0 (min (↑b.size) 7 : Int).toNat = y at *
  refine (sum_of x _ rfl (by omega) _).mono ?_
  rintro e w2 ⟨rfl, hb2⟩
  replace hb := bnext hb hb2; clear hb2
  go_wp2_with fail
  refine (sum_of y _ rfl (by omega) _).mono ?_
  rintro e w2 ⟨rfl, hb2⟩
  replace hb := bnext hb hb2; clear hb2
  by_cases hxy : x = y
  · subst hxy
    go_wp2
    go_ret
    exact ⟨rfl, hb⟩
  · have t1 : (x.toList == y.toList) = false := tl_false hxy
    have t2 : ((Dg.sumB x).toList == (Dg.sumB y).toList) = false := tl_false fun h => hxy (Dg.sumB_short hla hlb h)
    clear hxy
    go_wp2
    go_ret
    exact ⟨rfl, hb⟩
set_option maxHeartbeats 1000000 in
theorem law_ref (s : ByteArray) (A : Option Addr) (c : Nat) (l : List ByteArray) (n : Int) (hn : -9223372036854775808 ≤ n) (hn' : n ≤ 9223372036854775807) (w : World) (he : Env w) (hs : s.size ≤ 9223372036854775807) (hl : l.length ≤ 9223372036854775807) (hls : ∀ s ∈ l, s.size ≤ 9223372036854775807) (hS : Strs w w.heap.size A l) :
    Calls Tryd.prog 3 #[.string s, .slice A l.length c, .int .i64 n] w fun e w' => e = .returned (.bool true) ∧ Below w.heap.size w w' := by
  go_enter Tryd.func3, Tryd.ntmps3
  go_wp2_with fail
  refine (head_any w he).mono ?_
  rintro e w1 ⟨rfl, hb⟩
  by_cases h1 : s.size ≤ 2000
  · go_wp2_with fail
    have hS1 := (hS.below hb).more hb.size
    cases hf : Dg.few l 200 with
    | false =>
      refine (few_of A c l 200 false hf w1 hl hls hS1).mono ?_
      rintro e w2 ⟨rfl, rfl⟩
      go_wp2
      go_ret
      exact ⟨rfl, hb⟩
    | true =>
      obtain ⟨h2, h3, h4⟩ := few_bounds hf
      refine (few_of A c l 200 true hf w1 hl hls hS1).mono ?_
      rintro e w2 ⟨rfl, rfl⟩
      clear hf hls hl
      have hew := he.next hb
      go_wp2_with fail
      refine (sum_of s _ rfl (by omega) _).mono ?_
      rintro e w2 ⟨rfl, hb2⟩
      replace hb := bnext hb hb2
      have hS2 := (hS1.below hb2).more hb2.size
      replace hew := hew.next hb2; clear hb2 hS1
      go_wp2_with fail
      refine (rsum_of s _ rfl (by omega) _).mono ?_
      rintro e w3 ⟨rfl, rfl⟩
      go_wp2_with fail
      refine (list_of A 0 c _ l rfl _ rfl _ hew (by omega) (by omega) (fun s hs => by have := h3 s hs; omega) hS2).mono ?_
      rintro e w4 ⟨rfl, hb2⟩
      have hS3 := (hS2.below hb2).more hb2.size
      replace hb := bnext hb hb2; clear hb2
      go_wp2_with fail
      refine (rlist_of A c _ l rfl _ rfl _ (by omega) (by omega) (fun s hs => by have := h3 s hs; omega) hS3).mono ?_
      rintro e w5 ⟨rfl, hb2⟩
      replace hb := bnext hb hb2; clear hb2
      have hcl := Dg.chainB_le s (min (n.tmod 40) 1000).toNat
      go_wp2_with fail
      refine (chain_of s _ _ rfl _ rfl (by omega) _).mono ?_
      rintro e w6 ⟨rfl, hb2⟩
      replace hb := bnext hb hb2; clear hb2
      go_wp2_with fail
      refine (rchain_of s _ _ rfl _ rfl (by omega) _).mono ?_
      rintro e w7 ⟨rfl, rfl⟩
      generalize Dg.chainB s (min (n.tmod 40) 1000).toNat = C at *
      go_wp2_with fail
      refine (is_of s _ rfl (by omega) _).mono ?_
      rintro e w8 ⟨rfl, hb2⟩
      replace hb := bnext hb hb2; clear hb2
      go_wp2_with fail
      refine (ris_of s _ rfl (by omega) _).mono ?_
      rintro e w9 ⟨rfl, rfl⟩
      go_wp2
      go_ret
      exact ⟨rfl, hb⟩
  · go_wp2
    go_ret
    exact ⟨rfl, hb⟩
end Go.Proofs.YtgjmfoopnmdckaaDoor
