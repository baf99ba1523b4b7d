/- head of pandectlaw02: the chapter's examples. -/
import Derived.Test.YtmmpndijfbbnnaaDoorLTexts
import Derived.Test.YtmmpndijfbbnnaaDoorShown
namespace Go.Proofs.YtmmpndijfbbnnaaDoor
open Go Go.RowKit Go.Sort
theorem few_of (A : Option Addr) (c k : Nat) (l : List ByteArray) (n : Int) (r : Bool) (hk : l.length = k) (hr : Dg.few l n = r) (w : World) (hl : l.length ≤ 9223372036854775807) (hs : ∀ s ∈ l, s.size ≤ 9223372036854775807) (hS : Strs w w.heap.size A l) :
    Calls Tryd.prog 44 #[.slice A k c, .int .i64 n] w fun e w' => e = .returned (.bool r) ∧ w = w' := by
  subst hr hk; exact few_any A c l n w hl hs hS
theorem root_new (l : List ByteArray) (cs : Array Value) (T : TypeId) (k c : Nat) (hk : l.length = k) (hkc : k ≤ c) (h8 : k ≤ 1048576) (h : ∀ s ∈ l, s.size ≤ 1073741824) (r : ByteArray) (hr : Dg.root l = r) (w : World) (he : Env w) (hcs : cs.toList = l.map .string) (n : Nat) (hn : w.heap.size = n) :
    Calls Tryd.prog 21 #[.slice (some ⟨n, 0, none⟩) k c] (w.alloc (.cells cs T)) fun e w' => e = .returned (.string r) ∧ Below w.heap.size w w' := by
  subst hn
  exact (root_of k _ c l r _ hk hr (he.alloc _) hkc h8 h (Strs.new _ _ _ _ hcs)).mono fun e w' ⟨h1, h2⟩ => ⟨h1, bnextA (Below.refl _ _) h2⟩
theorem same_lit (A : Option Addr) (c k : Nat) (l : List ByteArray) (m : List ByteArray) (cs : Array Value) (T : TypeId) (k' c' : Nat) (hk : l.length = k) (hk' : m.length = k') (h1 : k ≤ 9223372036854775807) (h2 : k' ≤ 9223372036854775807) (r : Bool) (hr : Dg.same l m = r) (w : World) (hS : Strs w w.heap.size A l) (hcs : cs.toList = m.map .string) (n : Nat) (hn : w.heap.size = n) :
    Calls Tryd.prog 23 #[.slice A k c, .slice (some ⟨n, 0, none⟩) k' c'] (w.alloc (.cells cs T)) fun e w' => e = .returned (.bool r) ∧ Below w.heap.size w w' := by
  subst hn
  exact (same_of A _ c c' l m k k' hk hk' r hr _ h1 h2 (keepS hS (Below.news (Below.refl _ _) _)) (Strs.new _ _ _ _ hcs)).mono fun e w' ⟨h1, h2⟩ => ⟨h1, bnextA (Below.refl _ _) h2⟩
theorem path_of (A0 : Option Addr) (c0 n0 : Nat) (l0 : List ByteArray) (i : Int) (i0 : Nat) (hi0 : i = i0) (q : List ByteArray) (hq : Dg.path l0 i0 = q) (w : World) (hn0 : l0.length = n0) (he : Env w) (hc0 : n0 ≤ c0) (hl0 : n0 ≤ 1048576) (hs0 : ∀ s ∈ l0, s.size ≤ 1073741824) (hS0 : Strs w w.heap.size A0 l0) (hi : i0 < n0) :
    Calls Tryd.prog 17 #[.slice A0 n0 c0, .int .i64 i] w fun e w' => ∃ A c n, e = .returned (.tuple #[.slice A n c, .int .i64 0]) ∧ q.length = n ∧ n ≤ c ∧ Strs w' w'.heap.size A q ∧ Below w.heap.size w w' := by
  subst hi0 hq; exact path_any A0 c0 n0 l0 i0 w hn0 he hc0 hl0 hs0 hS0 hi
theorem Link_of (A : Option Addr) (c n : Nat) (l : List ByteArray) (j : Int) (i : Nat) (hj : j = i) (q : List ByteArray) (hq : linkL l i = q) (w : World) (hl : l.length = n) (he : Env w) (hc : n ≤ c) (hn : n ≤ 1048576) (hs : ∀ s ∈ l, s.size ≤ 1073741824) (hS : Strs w w.heap.size A l) (hi : i ≤ n) :
    Calls Tryd.prog 19 #[.slice A n c, .int .i64 j] w fun e w' => ∃ A c n, e = .returned (.tuple #[.slice A n c, .int .i64 0]) ∧ q.length = n ∧ n ≤ c ∧ Strs w' w'.heap.size A q ∧ Below w.heap.size w w' := by
  subst hj hq; exact Link_any A c n l i w hl he hc hn hs hS hi
theorem path_bad' (A0 : Option Addr) (c0 n0 : Nat) (i0 : Int) (w : World) (hi : i0 < 0 ∨ n0 ≤ i0) :
    Calls Tryd.prog 17 #[.slice A0 n0 c0, .int .i64 i0] w fun e w' => e = .returned (.tuple #[.slice none 0 0, .int .i64 1]) ∧ Below w.heap.size w w' :=
  (path_bad A0 c0 n0 i0 w hi).mono fun e w' ⟨h1, h2⟩ => ⟨h1, by subst h2; exact Below.refl _ _⟩
/-! The examples. -/
def xa : ByteArray := ⟨#[97]⟩
def xb : ByteArray := ⟨#[98]⟩
def xc : ByteArray := ⟨#[99]⟩
structure Ex (a b c ab R : ByteArray) : Prop where
  ha : Dg.root [xa] = a
  hb : Dg.root [xb] = b
  hc : Dg.root [xc] = c
  hab : Dg.listB [Dg.sNode, a, b] = ab
  hR : Dg.root [xa, xb, xc] = R
  R2 : Dg.listB [Dg.sNode, ab, c] = R
  la : Dg.listB [Dg.sLeaf, xa] = a
  e : Dg.root [] = Dg.listB [Dg.sEmpty]
  p2 : Dg.path [xa, xb, xc] 2 = [ab]
  p0 : Dg.path [xa, xb, xc] 0 = [b, c]
  m2 : linkL [xa, xb, xc] 2 = [c]
  m1 : linkL [xa, xb, xc] 1 = [b, c]
  ck : checkB R 3 2 xc [ab] = true
  ck' : checkB R 3 2 xb [ab] = false
  ex : extB a 1 R 3 [b, c] = true
  ex' : extB b 1 R 3 [b, c] = false
  za : a.size ≤ 1048576
  zb : b.size ≤ 1048576
  zc : c.size ≤ 1048576
  zab : ab.size ≤ 1048576
  zR : R.size ≤ 1048576
theorem ex_all : ∃ a b c ab R, Ex a b c ab R :=
  ⟨_, _, _, _, _, rfl, rfl, rfl, rfl, rfl, by decide +kernel, by decide +kernel, by decide +kernel, by decide +kernel, by decide +kernel, by decide +kernel, by decide +kernel, by decide +kernel, by decide +kernel, by decide +kernel, by decide +kernel, by rw [root_size]; decide, by rw [root_size]; decide, by rw [root_size]; decide, by rw [listB_size]; decide, by rw [root_size]; decide⟩
theorem same_self (l : List ByteArray) : Dg.same l l = true := (Dg.same_iff l l).2 rfl
theorem cat3 {P : ByteArray → Prop} {a b c : ByteArray} (ha : P a) (hb : P b) (hc : P c) : ∀ s ∈ [a, b, c], P s := Dg.mem3' ha hb hc
theorem z3 : ∀ s ∈ [xa, xb, xc], s.size ≤ 1073741824 := by decide
set_option maxRecDepth 100000 in
set_option maxHeartbeats 4000000 in
theorem head_any (w : World) (he : Env w) :
    Calls Tryd.prog 15 #[] w fun e w' => e = .returned (.bool true) ∧ Below w.heap.size w w' := by
  obtain ⟨a, b, c, ab, R, X⟩ := ex_all
  have za := X.za; have zb := X.zb; have zc := X.zc; have zab := X.zab; have zR := X.zR
  have X := hide X
  go_enter Tryd.func15, Tryd.ntmps15
  have hb := Below.refl w.heap.size w
  go_wp2_with fail
  refine (root_new [xa] _ _ 1 _ rfl (by decide) (by decide) (mem1 (by decide)) a X.out.ha _ he rfl _ rfl).mono ?_
  rintro e w1 ⟨rfl, hb1⟩
  replace he := he.next hb1
  replace hb := bnext hb hb1; clear hb1
  go_wp2_with fail
  refine (root_new [xb] _ _ 1 _ rfl (by decide) (by decide) (mem1 (by decide)) b X.out.hb _ he rfl _ rfl).mono ?_
  rintro e w2 ⟨rfl, hb2⟩
  replace he := he.next hb2
  replace hb := bnext hb hb2; clear hb2
  go_wp2_with fail
  refine (root_new [xc] _ _ 1 _ rfl (by decide) (by decide) (mem1 (by decide)) c X.out.hc _ he rfl _ rfl).mono ?_
  rintro e w3 ⟨rfl, hb3⟩
  replace he := he.next hb3
  replace hb := bnext hb hb3; clear hb3
  go_upto_region 3 with (fail)
  have hl3 := Strs.new w3 [xa, xb, xc] #[.string xa, .string xb, .string xc] 9 rfl
  have hb4 := Below.news (Below.refl w3.heap.size w3) (.cells #[.string xa, .string xb, .string xc] 9)
  replace he := he.next hb4
  replace hb := bnext hb hb4; clear hb4
  unfold xa xb xc at hl3 he hb
  go_wp2_with fail
  refine (path_of _ 3 3 [xa, xb, xc] 2 2 rfl [ab] X.out.p2 _ rfl he (by decide) (by decide) z3 hl3 (by decide)).mono ?_
  rintro e w5 ⟨Ap, cp, np, rfl, lp, kp, hSp, hb5⟩
  obtain rfl : np = 1 := lp.symm
  clear lp
  replace hl3 := keepS hl3 hb5
  replace he := he.next hb5
  replace hb := bnext hb hb5; clear hb5
  go_wp2_with fail
  refine (path_of _ 3 3 [xa, xb, xc] 0 0 rfl [b, c] X.out.p0 _ rfl he (by decide) (by decide) z3 hl3 (by decide)).mono ?_
  rintro e w6 ⟨Aq, cq, nq, rfl, lq, kq, hSq, hb6⟩
  obtain rfl : nq = 2 := lq.symm
  clear lq
  replace hl3 := keepS hl3 hb6
  replace hSp := keepS hSp hb6
  replace he := he.next hb6
  replace hb := bnext hb hb6; clear hb6
  go_wp2_with fail
  refine (Link_of _ 3 3 [xa, xb, xc] 2 2 rfl [c] X.out.m2 _ rfl he (by decide) (by decide) z3 hl3 (by decide)).mono ?_
  rintro e w7 ⟨Am, cm, nm, rfl, lm, km, hSm, hb7⟩
  obtain rfl : nm = 1 := lm.symm
  clear lm
  replace hl3 := keepS hl3 hb7
  replace hSp := keepS hSp hb7
  replace hSq := keepS hSq hb7
  replace he := he.next hb7
  replace hb := bnext hb hb7; clear hb7
  go_wp2_with fail
  refine (Link_of _ 3 3 [xa, xb, xc] 1 1 rfl [b, c] X.out.m1 _ rfl he (by decide) (by decide) z3 hl3 (by decide)).mono ?_
  rintro e w8 ⟨An, cn, nn, rfl, ln, kn, hSn, hb8⟩
  obtain rfl : nn = 2 := ln.symm
  clear ln
  replace hl3 := keepS hl3 hb8
  replace hSp := keepS hSp hb8
  replace hSq := keepS hSq hb8
  replace hSm := keepS hSm hb8
  replace he := he.next hb8
  replace hb := bnext hb hb8; clear hb8
  go_wp2_with fail
  refine (path_bad' _ 3 3 3 _ (by decide)).mono ?_
  rintro e w9 ⟨rfl, hb9⟩
  replace hl3 := keepS hl3 hb9
  replace hSp := keepS hSp hb9
  replace hSq := keepS hSq hb9
  replace hSm := keepS hSm hb9
  replace hSn := keepS hSn hb9
  replace he := he.next hb9
  replace hb := bnext hb hb9; clear hb9
  go_wp2_with fail
  refine (list_new [Dg.sNode, a, b] _ _ 3 _ rfl (len3 _ _ _) (mem3 (by decide) (by omega) (by omega)) ab X.out.hab _ he rfl _ rfl).mono ?_
  rintro e w10 ⟨rfl, hb10⟩
  replace hl3 := keepS hl3 hb10
  replace hSp := keepS hSp hb10
  replace hSq := keepS hSq hb10
  replace hSm := keepS hSm hb10
  replace hSn := keepS hSn hb10
  replace he := he.next hb10
  replace hb := bnext hb hb10; clear hb10
  go_wp2_with fail
  refine (root_of 0 none 0 [] (Dg.listB [Dg.sEmpty]) _ rfl X.out.e he (by decide) (by decide) (by simp) (Strs.nil _ _ _)).mono ?_
  rintro e w11 ⟨rfl, hb11⟩
  replace hl3 := keepS hl3 hb11
  replace hSp := keepS hSp hb11
  replace hSq := keepS hSq hb11
  replace hSm := keepS hSm hb11
  replace hSn := keepS hSn hb11
  replace he := he.next hb11
  replace hb := bnext hb hb11; clear hb11
  generalize hE : Dg.listB [Dg.sEmpty] = E at *
  have HE := hide hE; clear hE
  go_wp2_with fail
  refine (list_new [Dg.sEmpty] _ _ 1 _ rfl (len1 _) (mem1 (by decide)) E HE.out _ he rfl _ rfl).mono ?_
  rintro e w12 ⟨rfl, hb12⟩
  replace hl3 := keepS hl3 hb12
  replace hSp := keepS hSp hb12
  replace hSq := keepS hSq hb12
  replace hSm := keepS hSm hb12
  replace hSn := keepS hSn hb12
  replace he := he.next hb12
  replace hb := bnext hb hb12; clear hb12
  go_wp2_with fail
  refine (list_new [Dg.sLeaf, xa] _ _ 2 _ rfl (len2 _ _) (mem2 (by decide) (by decide)) a X.out.la _ he rfl _ rfl).mono ?_
  rintro e w13 ⟨rfl, hb13⟩
  replace hl3 := keepS hl3 hb13
  replace hSp := keepS hSp hb13
  replace hSq := keepS hSq hb13
  replace hSm := keepS hSm hb13
  replace hSn := keepS hSn hb13
  replace he := he.next hb13
  replace hb := bnext hb hb13; clear hb13
  go_wp2_with fail
  refine (root_of 3 _ 3 [xa, xb, xc] R _ rfl X.out.hR he (by decide) (by decide) z3 hl3).mono ?_
  rintro e w14 ⟨rfl, hb14⟩
  replace hl3 := keepS hl3 hb14
  replace hSp := keepS hSp hb14
  replace hSq := keepS hSq hb14
  replace hSm := keepS hSm hb14
  replace hSn := keepS hSn hb14
  replace he := he.next hb14
  replace hb := bnext hb hb14; clear hb14
  go_wp2_with fail
  refine (list_new [Dg.sNode, ab, c] _ _ 3 _ rfl (len3 _ _ _) (mem3 (by decide) (by omega) (by omega)) R X.out.R2 _ he rfl _ rfl).mono ?_
  rintro e w15 ⟨rfl, hb15⟩
  replace hl3 := keepS hl3 hb15
  replace hSp := keepS hSp hb15
  replace hSq := keepS hSq hb15
  replace hSm := keepS hSm hb15
  replace hSn := keepS hSn hb15
  replace he := he.next hb15
  replace hb := bnext hb hb15; clear hb15
  go_wp2_with fail
  refine (same_lit Ap cp 1 [ab] [ab] _ _ 1 _ rfl rfl (by decide) (by decide) true (same_self _) _ hSp rfl _ rfl).mono ?_
  rintro e w16 ⟨rfl, hb16⟩
  replace hl3 := keepS hl3 hb16
  replace hSp := keepS hSp hb16
  replace hSq := keepS hSq hb16
  replace hSm := keepS hSm hb16
  replace hSn := keepS hSn hb16
  replace he := he.next hb16
  replace hb := bnext hb hb16; clear hb16
  go_wp2_with fail
  refine (same_lit Aq cq 2 [b, c] [b, c] _ _ 2 _ rfl rfl (by decide) (by decide) true (same_self _) _ hSq rfl _ rfl).mono ?_
  rintro e w17 ⟨rfl, hb17⟩
  replace hl3 := keepS hl3 hb17
  replace hSp := keepS hSp hb17
  replace hSq := keepS hSq hb17
  replace hSm := keepS hSm hb17
  replace hSn := keepS hSn hb17
  replace he := he.next hb17
  replace hb := bnext hb hb17; clear hb17
  go_wp2_with fail
  refine (same_lit Am cm 1 [c] [c] _ _ 1 _ rfl rfl (by decide) (by decide) true (same_self _) _ hSm rfl _ rfl).mono ?_
  rintro e w18 ⟨rfl, hb18⟩
  replace hl3 := keepS hl3 hb18
  replace hSp := keepS hSp hb18
  replace hSq := keepS hSq hb18
  replace hSm := keepS hSm hb18
  replace hSn := keepS hSn hb18
  replace he := he.next hb18
  replace hb := bnext hb hb18; clear hb18
  go_wp2_with fail
  refine (same_lit An cn 2 [b, c] [b, c] _ _ 2 _ rfl rfl (by decide) (by decide) true (same_self _) _ hSn rfl _ rfl).mono ?_
  rintro e w19 ⟨rfl, hb19⟩
  replace hl3 := keepS hl3 hb19
  replace hSp := keepS hSp hb19
  replace hSq := keepS hSq hb19
  replace hSm := keepS hSm hb19
  replace hSn := keepS hSn hb19
  replace he := he.next hb19
  replace hb := bnext hb hb19; clear hb19
  go_wp2_with fail
  refine (root_of 3 _ 3 [xa, xb, xc] R _ rfl X.out.hR he (by decide) (by decide) z3 hl3).mono ?_
  rintro e w20 ⟨rfl, hb20⟩
  replace hl3 := keepS hl3 hb20
  replace hSp := keepS hSp hb20
  replace hSq := keepS hSq hb20
  replace hSm := keepS hSm hb20
  replace hSn := keepS hSn hb20
  replace he := he.next hb20
  replace hb := bnext hb hb20; clear hb20
  go_wp2_with fail
  refine (check_of R 3 2 xc Ap cp 1 [ab] _ X.out.ck _ he rfl (by decide) (mem1 (by omega)) (by decide) hSp).mono ?_
  rintro e w21 ⟨rfl, hb21⟩
  replace hl3 := keepS hl3 hb21
  replace hSp := keepS hSp hb21
  replace hSq := keepS hSq hb21
  replace hSm := keepS hSm hb21
  replace hSn := keepS hSn hb21
  replace he := he.next hb21
  replace hb := bnext hb hb21; clear hb21
  go_wp2_with fail
  refine (root_of 3 _ 3 [xa, xb, xc] R _ rfl X.out.hR he (by decide) (by decide) z3 hl3).mono ?_
  rintro e w22 ⟨rfl, hb22⟩
  replace hl3 := keepS hl3 hb22
  replace hSp := keepS hSp hb22
  replace hSq := keepS hSq hb22
  replace hSm := keepS hSm hb22
  replace hSn := keepS hSn hb22
  replace he := he.next hb22
  replace hb := bnext hb hb22; clear hb22
  go_wp2_with fail
  refine (check_of R 3 2 xb Ap cp 1 [ab] _ X.out.ck' _ he rfl (by decide) (mem1 (by omega)) (by decide) hSp).mono ?_
  rintro e w23 ⟨rfl, hb23⟩
  replace hl3 := keepS hl3 hb23
  replace hSp := keepS hSp hb23
  replace hSq := keepS hSq hb23
  replace hSm := keepS hSm hb23
  replace hSn := keepS hSn hb23
  replace he := he.next hb23
  replace hb := bnext hb hb23; clear hb23
  go_wp2_with fail
  refine (root_of 3 _ 3 [xa, xb, xc] R _ rfl X.out.hR he (by decide) (by decide) z3 hl3).mono ?_
  rintro e w24 ⟨rfl, hb24⟩
  replace hl3 := keepS hl3 hb24
  replace hSp := keepS hSp hb24
  replace hSq := keepS hSq hb24
  replace hSm := keepS hSm hb24
  replace hSn := keepS hSn hb24
  replace he := he.next hb24
  replace hb := bnext hb hb24; clear hb24
  go_wp2_with fail
  refine (extends_of a 1 R 3 An cn 2 [b, c] _ X.out.ex _ he rfl (by decide) (mem2 (by omega) (by omega)) (by omega) (by omega) hSn).mono ?_
  rintro e w25 ⟨rfl, hb25⟩
  replace hl3 := keepS hl3 hb25
  replace hSp := keepS hSp hb25
  replace hSq := keepS hSq hb25
  replace hSm := keepS hSm hb25
  replace hSn := keepS hSn hb25
  replace he := he.next hb25
  replace hb := bnext hb hb25; clear hb25
  go_wp2_with fail
  refine (root_of 3 _ 3 [xa, xb, xc] R _ rfl X.out.hR he (by decide) (by decide) z3 hl3).mono ?_
  rintro e w26 ⟨rfl, hb26⟩
  replace hl3 := keepS hl3 hb26
  replace hSp := keepS hSp hb26
  replace hSq := keepS hSq hb26
  replace hSm := keepS hSm hb26
  replace hSn := keepS hSn hb26
  replace he := he.next hb26
  replace hb := bnext hb hb26; clear hb26
  go_wp2_with fail
  refine (extends_of b 1 R 3 An cn 2 [b, c] _ X.out.ex' _ he rfl (by decide) (mem2 (by omega) (by omega)) (by omega) (by omega) hSn).mono ?_
  rintro e w27 ⟨rfl, hb27⟩
  replace hl3 := keepS hl3 hb27
  replace hSp := keepS hSp hb27
  replace hSq := keepS hSq hb27
  replace hSm := keepS hSm hb27
  replace hSn := keepS hSn hb27
  replace he := he.next hb27
  replace hb := bnext hb hb27; clear hb27
  go_wp2
  go_ret
  exact ⟨rfl, hb⟩
end Go.Proofs.YtmmpndijfbbnnaaDoor
