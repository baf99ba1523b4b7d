/- The law TreeMatchesReference. -/
import Derived.Test.YtmmpndijfbbnnaaDoorLawT4
namespace Go.Proofs.YtmmpndijfbbnnaaDoor
open Go Go.RowKit Go.Sort
def inP (n : Nat) (i : Int) : Bool := decide (0 ≤ i ∧ i < n)
def inL (n : Nat) (i : Int) : Bool := decide (0 ≤ i ∧ i ≤ n)
def errOf (b : Bool) : Int := if b then 0 else 1
def pathQ (l : List ByteArray) (i : Int) : List ByteArray := if inP l.length i then Dg.path l i.toNat else []
def linkQ (l : List ByteArray) (i : Int) : List ByteArray := if inL l.length i then linkL l i.toNat else []
theorem bad_out {f : FuncId} {args : Array Value} {w : World} (h : Calls Tryd.prog f args w fun e w' => e = .returned (.tuple #[.slice none 0 0, .int .i64 1]) ∧ w = w') :
    Calls Tryd.prog f args w fun e w' => ∃ A c n, e = .returned (.tuple #[.slice A n c, .int .i64 (errOf false)]) ∧ ([] : List ByteArray).length = n ∧ Strs w' w'.heap.size A [] ∧ Below w.heap.size w w' :=
  h.mono fun e w' ⟨h1, h2⟩ => ⟨none, 0, 0, h1, rfl, Strs.nil _ _ _, by subst h2; exact Below.refl _ _⟩
theorem good_out {f : FuncId} {args : Array Value} {w : World} {q : List ByteArray} (h : Calls Tryd.prog f args w fun e w' => ∃ A c n, e = .returned (.tuple #[.slice A n c, .int .i64 0]) ∧ q.length = n ∧ n ≤ c ∧ Strs w' w'.heap.size A q ∧ Below w.heap.size w w') :
    Calls Tryd.prog f args w fun e w' => ∃ A c n, e = .returned (.tuple #[.slice A n c, .int .i64 (errOf true)]) ∧ q.length = n ∧ Strs w' w'.heap.size A q ∧ Below w.heap.size w w' :=
  h.mono fun _ _ ⟨A, c, n, h1, h2, _, h3, h4⟩ => ⟨A, c, n, h1, h2, h3, h4⟩
theorem Path_full (A : Option Addr) (c n : Nat) (l : List ByteArray) (i : Int) (w : World) (hn : l.length = n) (he : Env w) (hc : n ≤ c) (hl : n ≤ 1048576) (hs : ∀ s ∈ l, s.size ≤ 1073741824) (hS : Strs w w.heap.size A l) :
    Calls Tryd.prog 17 #[.slice A n c, .int .i64 i] w fun e w' => ∃ A c k, e = .returned (.tuple #[.slice A k c, .int .i64 (errOf (inP n i))]) ∧ (pathQ l i).length = k ∧ Strs w' w'.heap.size A (pathQ l i) ∧ Below w.heap.size w w' := by
  subst hn
  unfold pathQ
  cases hb : inP l.length i with
  | true =>
    have h := of_decide_eq_true hb
    obtain ⟨k, rfl⟩ : ∃ k : Nat, i = k := ⟨i.toNat, by omega⟩
    rw [if_pos rfl, Int.toNat_natCast]
    exact good_out (path_any A c l.length l k w rfl he hc hl hs hS (by omega))
  | false =>
    have h := of_decide_eq_false hb
    rw [if_neg (by decide)]
    exact bad_out (path_bad A c l.length i w (by omega))
theorem rPath_full (A : Option Addr) (c n : Nat) (l : List ByteArray) (i : Int) (w : World) (hn : l.length = n) (hc : n ≤ c) (hl : n ≤ 1048576) (hs : ∀ s ∈ l, s.size ≤ 1048576) (hS : Strs w w.heap.size A l) :
    Calls Tryd.prog 18 #[.slice A n c, .int .i64 i] w fun e w' => ∃ A c k, e = .returned (.tuple #[.slice A k c, .int .i64 (errOf (inP n i))]) ∧ (pathQ l i).length = k ∧ Strs w' w'.heap.size A (pathQ l i) ∧ Below w.heap.size w w' := by
  subst hn
  unfold pathQ
  cases hb : inP l.length i with
  | true =>
    have h := of_decide_eq_true hb
    obtain ⟨k, rfl⟩ : ∃ k : Nat, i = k := ⟨i.toNat, by omega⟩
    rw [if_pos rfl, Int.toNat_natCast]
    exact good_out (rPath_any A c l.length l k w rfl hc hl hs hS (by omega))
  | false =>
    have h := of_decide_eq_false hb
    rw [if_neg (by decide)]
    exact bad_out (rPath_bad A c l.length i w (by omega))
theorem Link_full (A : Option Addr) (c n : Nat) (l : List ByteArray) (i : Int) (w : World) (hn : l.length = n) (he : Env w) (hc : n ≤ c) (hl : n ≤ 1048576) (hs : ∀ s ∈ l, s.size ≤ 1073741824) (hS : Strs w w.heap.size A l) :
    Calls Tryd.prog 19 #[.slice A n c, .int .i64 i] w fun e w' => ∃ A c k, e = .returned (.tuple #[.slice A k c, .int .i64 (errOf (inL n i))]) ∧ (linkQ l i).length = k ∧ Strs w' w'.heap.size A (linkQ l i) ∧ Below w.heap.size w w' := by
  subst hn
  unfold linkQ
  cases hb : inL l.length i with
  | true =>
    have h := of_decide_eq_true hb
    obtain ⟨k, rfl⟩ : ∃ k : Nat, i = k := ⟨i.toNat, by omega⟩
    rw [if_pos rfl, Int.toNat_natCast]
    exact good_out (Link_any A c l.length l k w rfl he hc hl hs hS (by omega))
  | false =>
    have h := of_decide_eq_false hb
    rw [if_neg (by decide)]
    exact bad_out (Link_bad A c l.length i w (by omega))
theorem rLink_full (A : Option Addr) (c n : Nat) (l : List ByteArray) (i : Int) (w : World) (hn : l.length = n) (hc : n ≤ c) (hl : n ≤ 1048576) (hs : ∀ s ∈ l, s.size ≤ 1048576) (hS : Strs w w.heap.size A l) :
    Calls Tryd.prog 20 #[.slice A n c, .int .i64 i] w fun e w' => ∃ A c k, e = .returned (.tuple #[.slice A k c, .int .i64 (errOf (inL n i))]) ∧ (linkQ l i).length = k ∧ Strs w' w'.heap.size A (linkQ l i) ∧ Below w.heap.size w w' := by
  subst hn
  unfold linkQ
  cases hb : inL l.length i with
  | true =>
    have h := of_decide_eq_true hb
    obtain ⟨k, rfl⟩ : ∃ k : Nat, i = k := ⟨i.toNat, by omega⟩
    rw [if_pos rfl, Int.toNat_natCast]
    exact good_out (rLink_any A c l.length l k w rfl hc hl hs hS (by omega))
  | false =>
    have h := of_decide_eq_false hb
    rw [if_neg (by decide)]
    exact bad_out (rLink_bad A c l.length i w (by omega))
theorem errOf_le (b : Bool) : 0 ≤ errOf b ∧ errOf b ≤ 1 := by cases b <;> decide
theorem linkQ_len (l : List ByteArray) (i : Int) : (linkQ l i).length ≤ l.length := by
  unfold linkQ
  split
  · rename_i h
    have h := of_decide_eq_true h
    by_cases h0 : i.toNat = 0
    · rw [h0, linkL_zero]; exact Nat.zero_le _
    · rw [linkL_pos _ _ h0]; exact link_le l.length l i.toNat true rfl (by omega) (by omega)
  · exact Nat.zero_le _
theorem pathQ_len (l : List ByteArray) (i : Int) : (pathQ l i).length ≤ l.length := by
  unfold pathQ
  split
  · rename_i h
    have h := of_decide_eq_true h
    rw [Dg.path_len l.length l i.toNat rfl (by omega)]; exact length_le _ _
  · exact Nat.zero_le _
set_option maxRecDepth 100000 in
set_option maxHeartbeats 4000000 in
theorem law_tree (A : Option Addr) (c : Nat) (l : List ByteArray) (i m n : Int) (root old s : ByteArray) (A' : Option Addr) (c' : Nat) (p : List ByteArray) (w : World) (he : Env w) (hl : l.length ≤ 9223372036854775807) (hls : ∀ s ∈ l, s.size ≤ 9223372036854775807) (hS : Strs w w.heap.size A l) (hc : l.length ≤ c)
    (hr : root.size ≤ 9223372036854775807) (ho : old.size ≤ 9223372036854775807) (hs : s.size ≤ 9223372036854775807) (hl' : p.length ≤ 9223372036854775807) (hls' : ∀ s ∈ p, s.size ≤ 9223372036854775807) (hS' : Strs w w.heap.size A' p) (hc' : p.length ≤ c') :
    Calls Tryd.prog 3 #[.slice A l.length c, .int .i64 i, .int .i64 m, .int .i64 n, .string root, .string old, .string s, .slice A' p.length c'] w fun e w' => e = .returned (.bool true) ∧ Below w.heap.size w w' := by
  have HS := hide hls; have HS' := hide hls'; clear hls hls'
  go_enter Tryd.func3, Tryd.ntmps3
  go_wp2_with fail
  refine (head_any w he).mono ?_
  rintro e w1 ⟨rfl, hb⟩
  go_wp2_with fail
  cases hf : few20 l with
  | false =>
    refine (few2_of A c _ l false rfl hf _ hl HS.out (keepS hS hb)).mono ?_
    rintro e w2 ⟨rfl, rfl⟩
    clear hf
    go_wp2
    go_ret
    exact ⟨rfl, hb⟩
  | true =>
    refine (few2_of A c _ l true rfl hf _ hl HS.out (keepS hS hb)).mono ?_
    rintro e w2 ⟨rfl, rfl⟩
    obtain ⟨f1, f2⟩ := few20_bounds hf
    have F := hide f2; clear hf f2
    go_wp2_with fail
    cases hf : few20 p with
    | false =>
      refine (few2_of A' c' _ p false rfl hf _ hl' HS'.out (keepS hS' hb)).mono ?_
      rintro e w2 ⟨rfl, rfl⟩
      clear hf
      go_wp2
      go_ret
      exact ⟨rfl, hb⟩
    | true =>
      refine (few2_of A' c' _ p true rfl hf _ hl' HS'.out (keepS hS' hb)).mono ?_
      rintro e w2 ⟨rfl, rfl⟩
      obtain ⟨f1', f2⟩ := few20_bounds hf
      have F' := hide f2; clear hf f2
      by_cases g1 : root.size ≤ 100
      · by_cases g2 : old.size ≤ 100
        · by_cases g3 : s.size ≤ 100
          · have hz := hide (fun s (h : s ∈ l) => (by have := F.out s h; omega : s.size ≤ 1073741824))
            have hy := hide (fun s (h : s ∈ l) => (by have := F.out s h; omega : s.size ≤ 1048576))
            have hz' := hide (fun s (h : s ∈ p) => (by have := F'.out s h; omega : s.size ≤ 1073741824))
            have hy' := hide (fun s (h : s ∈ p) => (by have := F'.out s h; omega : s.size ≤ 1048576))
            have k1 := hide (fun (W : World) (g : Below w.heap.size w W) => Path_full A c l.length l i W rfl (he.next g) hc (by omega) hz.out (keepS hS g))
            have k2 := hide (fun (W : World) (g : Below w.heap.size w W) => rPath_full A c l.length l i W rfl hc (by omega) hy.out (keepS hS g))
            have k3 := hide (fun (W : World) (g : Below w.heap.size w W) => Link_full A c l.length l m W rfl (he.next g) hc (by omega) hz.out (keepS hS g))
            have k4 := hide (fun (W : World) (g : Below w.heap.size w W) => rLink_full A c l.length l m W rfl hc (by omega) hy.out (keepS hS g))
            have r1 := hide (fun (W : World) (g : Below w.heap.size w W) => root_of l.length A c l _ W rfl rfl (he.next g) hc (by omega) hz.out (keepS hS g))
            have r2 := hide (fun (W : World) (g : Below w.heap.size w W) => rroot_of l.length A c l _ W rfl rfl hc (by omega) hy.out (keepS hS g))
            have c1 := hide (fun (W : World) (g : Below w.heap.size w W) => check_of root n i s A' c' p.length p _ rfl W (he.next g) rfl (by omega) hz'.out (by omega) (keepS hS' g))
            have c2 := hide (fun (W : World) (g : Below w.heap.size w W) => rcheck_of root n i s A' c' p.length p _ rfl W rfl (by omega) hc' hy'.out (by omega) (keepS hS' g))
            have c3 := hide (fun (W : World) (g : Below w.heap.size w W) => check_of (Dg.root l) l.length i s A' c' p.length p _ rfl W (he.next g) rfl (by omega) hz'.out (by omega) (keepS hS' g))
            have c4 := hide (fun (W : World) (g : Below w.heap.size w W) => rcheck_of (Dg.root l) l.length i s A' c' p.length p _ rfl W rfl (by omega) hc' hy'.out (by omega) (keepS hS' g))
            have e1 := hide (fun (W : World) (g : Below w.heap.size w W) => extends_of old m root n A' c' p.length p _ rfl W (he.next g) rfl (by omega) hz'.out (by omega) (by omega) (keepS hS' g))
            have e2 := hide (fun (W : World) (g : Below w.heap.size w W) => rextends_of old m root n A' c' p.length p _ rfl W rfl (by omega) hc' hy'.out (by omega) (by omega) (keepS hS' g))
            have e3 := hide (fun (W : World) (g : Below w.heap.size w W) => extends_of old m (Dg.root l) l.length A' c' p.length p _ rfl W (he.next g) rfl (by omega) hz'.out (by omega) (by rw [root_size]; decide) (keepS hS' g))
            have e4 := hide (fun (W : World) (g : Below w.heap.size w W) => rextends_of old m (Dg.root l) l.length A' c' p.length p _ rfl W rfl (by omega) hc' hy'.out (by omega) (by rw [root_size]; decide) (keepS hS' g))
            have b1 := errOf_le (inP l.length i)
            have b2 := errOf_le (inL l.length m)
            have b3 := pathQ_len l i
            have b4 := linkQ_len l m
            generalize errOf (inP l.length i) = E1 at *
            generalize errOf (inL l.length m) = E2 at *
            generalize checkB root n i s p = C1 at *
            generalize checkB (Dg.root l) l.length i s p = C2 at *
            generalize extB old m root n p = X1 at *
            generalize extB old m (Dg.root l) l.length p = X2 at *
            generalize pathQ l i = q at *
            generalize linkQ l m = y at *
            generalize Dg.root l = R at *
            generalize l.length = la at *
            generalize p.length = lp at *
            go_wp2_with fail
            refine (k1.out _ hb).mono ?_
            rintro e w9 ⟨A3, d3, n3, rfl, hn3, hS3, hb2⟩
            have Hn3 := hide hn3
            have z3 : n3 ≤ 20 := by omega
            clear hn3
            replace hb := bnext hb hb2; clear hb2
            go_wp2_with fail
            refine (k2.out _ hb).mono ?_
            rintro e w9 ⟨A4, d4, n4, rfl, hn4, hS4, hb2⟩
            have Hn4 := hide hn4
            have z4 : n4 ≤ 20 := by omega
            clear hn4
            replace hS3 := keepS hS3 hb2
            replace hb := bnext hb hb2; clear hb2
            go_wp2_with fail
            refine (k3.out _ hb).mono ?_
            rintro e w9 ⟨A5, d5, n5, rfl, hn5, hS5, hb2⟩
            have Hn5 := hide hn5
            have z5 : n5 ≤ 20 := by omega
            clear hn5
            replace hS3 := keepS hS3 hb2
            replace hS4 := keepS hS4 hb2
            replace hb := bnext hb hb2; clear hb2
            go_wp2_with fail
            refine (k4.out _ hb).mono ?_
            rintro e w9 ⟨A6, d6, n6, rfl, hn6, hS6, hb2⟩
            have Hn6 := hide hn6
            have z6 : n6 ≤ 20 := by omega
            clear hn6
            replace hS3 := keepS hS3 hb2
            replace hS4 := keepS hS4 hb2
            replace hS5 := keepS hS5 hb2
            replace hb := bnext hb hb2; clear hb2
            go_wp2_with fail
            refine (r1.out _ hb).mono ?_
            rintro e w9 ⟨rfl, hb2⟩
            replace hS3 := keepS hS3 hb2
            replace hS4 := keepS hS4 hb2
            replace hS5 := keepS hS5 hb2
            replace hS6 := keepS hS6 hb2
            replace hb := bnext hb hb2; clear hb2
            go_wp2_with fail
            refine (r2.out _ hb).mono ?_
            rintro e w9 ⟨rfl, hb2⟩
            replace hS3 := keepS hS3 hb2
            replace hS4 := keepS hS4 hb2
            replace hS5 := keepS hS5 hb2
            replace hS6 := keepS hS6 hb2
            replace hb := bnext hb hb2; clear hb2
            go_wp2_with fail
            refine (same_of A3 A4 d3 d4 q q n3 n4 Hn3.out Hn4.out true (same_self q) _ (by omega) (by omega) hS3 hS4).mono ?_
            rintro e w9 ⟨rfl, hb2⟩
            replace hS3 := keepS hS3 hb2
            replace hS4 := keepS hS4 hb2
            replace hS5 := keepS hS5 hb2
            replace hS6 := keepS hS6 hb2
            replace hb := bnext hb hb2; clear hb2
            go_wp2_with fail
            refine (same_of A5 A6 d5 d6 y y n5 n6 Hn5.out Hn6.out true (same_self y) _ (by omega) (by omega) hS5 hS6).mono ?_
            rintro e w9 ⟨rfl, hb2⟩
            replace hS3 := keepS hS3 hb2
            replace hS4 := keepS hS4 hb2
            replace hS5 := keepS hS5 hb2
            replace hS6 := keepS hS6 hb2
            replace hb := bnext hb hb2; clear hb2
            clear hS3 hS4 hS5 hS6
            go_wp2_with fail
            refine (c1.out _ hb).mono ?_
            rintro e w9 ⟨rfl, hb2⟩
            replace hb := bnext hb hb2; clear hb2
            go_wp2_with fail
            refine (c2.out _ hb).mono ?_
            rintro e w9 ⟨rfl, hb2⟩
            replace hb := bnext hb hb2; clear hb2
            go_wp2_with fail
            refine (r1.out _ hb).mono ?_
            rintro e w9 ⟨rfl, hb2⟩
            replace hb := bnext hb hb2; clear hb2
            go_wp2_with fail
            refine (c3.out _ hb).mono ?_
            rintro e w9 ⟨rfl, hb2⟩
            replace hb := bnext hb hb2; clear hb2
            go_wp2_with fail
            refine (r2.out _ hb).mono ?_
            rintro e w9 ⟨rfl, hb2⟩
            replace hb := bnext hb hb2; clear hb2
            go_wp2_with fail
            refine (c4.out _ hb).mono ?_
            rintro e w9 ⟨rfl, hb2⟩
            replace hb := bnext hb hb2; clear hb2
            go_wp2_with fail
            refine (e1.out _ hb).mono ?_
            rintro e w9 ⟨rfl, hb2⟩
            replace hb := bnext hb hb2; clear hb2
            go_wp2_with fail
            refine (e2.out _ hb).mono ?_
            rintro e w9 ⟨rfl, hb2⟩
            replace hb := bnext hb hb2; clear hb2
            go_wp2_with fail
            refine (r1.out _ hb).mono ?_
            rintro e w9 ⟨rfl, hb2⟩
            replace hb := bnext hb hb2; clear hb2
            go_wp2_with fail
            refine (e3.out _ hb).mono ?_
            rintro e w9 ⟨rfl, hb2⟩
            replace hb := bnext hb hb2; clear hb2
            go_wp2_with fail
            refine (r2.out _ hb).mono ?_
            rintro e w9 ⟨rfl, hb2⟩
            replace hb := bnext hb hb2; clear hb2
            go_wp2_with fail
            refine (e4.out _ hb).mono ?_
            rintro e w9 ⟨rfl, hb2⟩
            replace hb := bnext hb hb2; clear hb2
            go_wp2
            go_ret
            exact ⟨rfl, hb⟩
          · go_wp2
            go_ret
            exact ⟨rfl, hb⟩
        · go_wp2
          go_ret
          exact ⟨rfl, hb⟩
      · go_wp2
        go_ret
        exact ⟨rfl, hb⟩
end Go.Proofs.YtmmpndijfbbnnaaDoor
