/- Walks and laws of this seat, several texts in one: V13, VLaw2, RefChain, R31, S11, S12, S13, R32, R33, V16, OwnC, OwnD, V17, V18. No conditions but those that each theorem states. -/
import Derived.Test.YtgncahnkkpjdpaaGreatDoorGA4
import Derived.Deep.RegionHeld3
/- What the laws of pandectlaw39 hold while they walk. No conditions but those that each theorem states. -/
namespace Go.Proofs.YtgncahnkkpjdpaaGreatDoor
open Go Go.RowKit Go.Sort Go.Maps
theorem cells5 {w : World} {g : Nat} {a0 a1 a2 a3 a4 : Value} {T : TypeId} (h : w.heap[g]? = some (.cells #[a0, a1, a2, a3, a4] T (0, 0))) :
    w.cell? ⟨g, 0, none⟩ = some a0 ∧ w.cell? ⟨g, 1, none⟩ = some a1 ∧ w.cell? ⟨g, 2, none⟩ = some a2 ∧ w.cell? ⟨g, 3, none⟩ = some a3 ∧ w.cell? ⟨g, 4, none⟩ = some a4 := by
  refine ⟨?_, ?_, ?_, ?_, ?_⟩ <;> (rw [cell_of_row _ _ _ _ _ (0, 0) h]; rfl)
/-- Rows of its own, keys, votes. -/
structure LS (B : Nat) (rows : List (Value × TypeId × List Value)) (A : Option Addr) (K : List ByteArray) (AV : Option Addr) (l : List Dg.Vt) (W : World) : Prop where
  own : OwnL W B rows
  key : Strs W W.heap.size A K
  vts : Vts W W.heap.size AV l
  env : Env W
theorem LS.below {B : Nat} {rows : List (Value × TypeId × List Value)} {A : Option Addr} {K : List ByteArray} {AV : Option Addr} {l : List Dg.Vt} {W W' : World} (h : LS B rows A K AV l W) (hb : Below W.heap.size W W') : LS B rows A K AV l W' :=
  ⟨h.own.below hb, keepS h.key hb, h.vts.keep hb, h.env.next hb⟩
theorem LS.lit {B : Nat} {rows : List (Value × TypeId × List Value)} {A : Option Addr} {K : List ByteArray} {AV : Option Addr} {l : List Dg.Vt} {W : World} (h : LS B rows A K AV l W) (hB : B ≤ W.heap.size) (cs : Array Value) (T : TypeId) (n : Nat) (hn : cs.size = n) (hm : n ≤ maxLen) : LS B ((.slice (some ⟨W.heap.size, 0, none⟩) n n, T, cs.toList) :: rows) A K AV l (W.alloc (.cells cs T)) :=
  ⟨h.own.lit hB cs T n hn hm, (h.below (Below.news (Below.refl _ _) _)).key, (h.below (Below.news (Below.refl _ _) _)).vts, (h.below (Below.news (Below.refl _ _) _)).env⟩
theorem LS.row {B g n : Nat} {T : TypeId} {xs : List Value} {rows : List (Value × TypeId × List Value)} {A : Option Addr} {K : List ByteArray} {AV : Option Addr} {l : List Dg.Vt} {W : World} (h : LS B rows A K AV l W) (hm : ((Value.slice (some ⟨g, 0, none⟩) n n, T, xs) : Value × TypeId × List Value) ∈ rows) : W.heap[g]? = some (.cells xs.toArray T (0, 0)) := OwnV.row (h.own.own _ hm)
/-- What few says. -/
structure FewV (K : List ByteArray) (l : List Dg.Vt) (most : Nat) : Prop where
  nl : l.length ≤ most
  nk : K.length ≤ 10
  kz : ∀ s ∈ K, s.size ≤ 60
  vz : ∀ v ∈ l, v.bill.size ≤ 100 ∧ v.sig.length ≤ 30 ∧ (∀ s ∈ v.sig, s.size ≤ 100) ∧ v.path.length ≤ 30 ∧ ∀ s ∈ v.path, s.size ≤ 100
theorem few_spec {K : List ByteArray} {l : List Dg.Vt} {most : Nat} (h : fewVB K l most = true) : FewV K l most := by
  unfold fewVB at h
  simp only [Bool.and_eq_true, decide_eq_true_eq, List.all_eq_true] at h
  obtain ⟨h1, h2, h3, h4⟩ := h
  refine ⟨h1, h2, fun s hs => ?_, fun v hv => ?_⟩
  · have := ((Dg.few_iff K 60).1 h3).2 s hs; omega
  · have h5 := h4 v hv
    unfold fewV1 at h5
    rw [Bool.and_eq_true, decide_eq_true_eq] at h5
    obtain ⟨⟨a1, a2⟩, a3, a4⟩ := (fewS_iff _ _).1 h5.1
    exact ⟨h5.2, a1, a2, a3, a4⟩
theorem FewV.vt0 {K : List ByteArray} {l : List Dg.Vt} {most : Nat} (h : FewV K l most) (hw : ∀ v ∈ l, VtW v) : ∀ v ∈ l, Vt0 v := fun v hv => by
  obtain ⟨h1, _, h2, _, h3⟩ := h.vz v hv
  have h4 := hw v hv
  exact ⟨h4.m0, h4.m1, h4.c0, h4.c1, by omega, fun s hs => by have := h2 s hs; omega, fun s hs => by have := h3 s hs; omega⟩
theorem FewV.key {K : List ByteArray} {l : List Dg.Vt} {most : Nat} (h : FewV K l most) : ∀ s ∈ K, s.size ≤ 4611686018427387904 := fun s hs => by have := h.kz s hs; omega
theorem cnt_sum (r : Dg.Rl) (bill : ByteArray) (l : List Dg.Vt) : (Dg.cnt r bill l).yes + (Dg.cnt r bill l).no + (Dg.cnt r bill l).bad.length = l.length := Dg.cnt_le r bill l
end Go.Proofs.YtgncahnkkpjdpaaGreatDoor
/- What a seal of one vote says of another, in plain Lean. No program in sight. -/
namespace Go.Proofs.YtgncahnkkpjdpaaGreatDoor.Dg
open Go
theorem decDigits_inj {a b : Nat} (ha : a < 10 ^ 20) (hb : b < 10 ^ 20) (h : Lib.decDigits a = Lib.decDigits b) : a = b := by
  rw [← decF_eq 20 a ha (by omega), ← decF_eq 20 b hb (by omega)] at h
  exact dec_inj ha hb h
theorem decDigits_no45 (a : Nat) (l : List UInt8) : Lib.decDigits a ≠ 45 :: l := fun h => by
  have h1 : ∀ c ∈ Lib.decDigits a, c ≠ 45 := fun c hc => by
    rw [Lib.decDigits_eq] at hc
    obtain ⟨t, _, rfl⟩ := List.mem_map.1 hc
    unfold Lib.dg
    intro e
    have := congrArg UInt8.toNat e
    rw [UInt8.toNat_ofNat'] at this
    have h3 : (45 : UInt8).toNat = 45 := rfl
    rw [h3] at this
    omega
  rw [h] at h1
  exact h1 45 (List.mem_cons_self ..) rfl
theorem itoa_inj {a b : Int} (ha : -9223372036854775808 ≤ a) (ha1 : a ≤ 9223372036854775807) (hb : -9223372036854775808 ≤ b) (hb1 : b ≤ 9223372036854775807) (h : Lib.itoa a = Lib.itoa b) : a = b := by
  unfold Lib.itoa at h
  by_cases h1 : a < 0
  · rw [if_pos h1] at h
    by_cases h2 : b < 0
    · rw [if_pos h2] at h
      injection h with _ h
      have := decDigits_inj (by omega) (by omega) h
      omega
    · rw [if_neg h2] at h
      exact absurd h.symm (decDigits_no45 _ _)
  · rw [if_neg h1] at h
    by_cases h2 : b < 0
    · rw [if_pos h2] at h
      exact absurd h (decDigits_no45 _ _)
    · rw [if_neg h2] at h
      have := decDigits_inj (by omega) (by omega) h
      omega
theorem decI_inj {a b : Int} (ha : -9223372036854775808 ≤ a) (ha1 : a ≤ 9223372036854775807) (hb : -9223372036854775808 ≤ b) (hb1 : b ≤ 9223372036854775807) (h : decI a = decI b) : a = b := itoa_inj ha ha1 hb hb1 (B_inj h)
theorem word_inj {a b : Bool} (h : word a = word b) : a = b := by cases a <;> cases b <;> first | rfl | (exact absurd h (by decide))
theorem msgL_sizes (m : Int) (b : ByteArray) (c : Int) (y : Bool) (hb : b.size ≤ 100) (m0 : -9223372036854775808 ≤ m) (m1 : m ≤ 9223372036854775807) (c0 : -9223372036854775808 ≤ c) (c1 : c ≤ 9223372036854775807) : ∀ s ∈ msgL m b c y, s.size ≤ 100 := by
  intro s hs
  have h1 := decI_size c c0 c1
  have h2 := decI_size m m0 m1
  have h3 := word_size y
  have h4 : sVote.size = 4 := rfl
  simp only [msgL, List.mem_cons, List.not_mem_nil, or_false] at hs
  rcases hs with rfl | rfl | rfl | rfl | rfl <;> omega
theorem msg_differ {m m' : Int} {b b' : ByteArray} {c c' : Int} {y y' : Bool} (hb : b.size ≤ 100) (hb' : b'.size ≤ 100) (m0 : -9223372036854775808 ≤ m) (m1 : m ≤ 9223372036854775807) (c0 : -9223372036854775808 ≤ c) (c1 : c ≤ 9223372036854775807) (n0 : -9223372036854775808 ≤ m') (n1 : m' ≤ 9223372036854775807) (d0 : -9223372036854775808 ≤ c') (d1 : c' ≤ 9223372036854775807)
    (h : b ≠ b' ∨ c ≠ c' ∨ m ≠ m' ∨ y ≠ y') : jB (msgL m b c y) ≠ jB (msgL m' b' c' y') := fun e => by
  have h1 := (joinedL_eq (msgL m b c y) (msgL m' b' c' y') (fun s hs => Nat.le_trans (msgL_sizes m b c y hb m0 m1 c0 c1 s hs) (by decide)) (fun s hs => Nat.le_trans (msgL_sizes m' b' c' y' hb' n0 n1 d0 d1 s hs) (by decide))).1 e
  unfold msgL at h1
  simp only [List.cons.injEq, true_and, and_true] at h1
  obtain ⟨h2, h3, h4, h5⟩ := h1
  rcases h with h | h | h | h
  · exact h h2
  · exact h (decI_inj c0 c1 d0 d1 h3)
  · exact h (decI_inj m0 m1 n0 n1 h4)
  · exact h (word_inj h5)
theorem msgB_eq (m : Int) (b : ByteArray) (c : Int) (y : Bool) : msgB m b c y = sumB (jB (msgL m b c y)) := (sumB_jB _).symm
/-- The roll of the statement. -/
def sRoll (c : Int) (key : ByteArray) (m : Nat) : Rl := ⟨c, List.replicate (m + 1) key, 1, 0, 1⟩
theorem sRoll_proper (c : Int) (key : ByteArray) (m : Nat) (hc : c = 1 ∨ c = 2) (hm : m ≤ 9) (hk : isB key = true) : properB (sRoll c key m) = true := by
  unfold properB sRoll ratioB allDig
  simp only [List.length_replicate, Bool.and_eq_true, decide_eq_true_eq, List.all_eq_true]
  refine ⟨hc, by omega, by omega, by omega, by omega, ⟨by omega, by omega, by omega⟩, fun s hs => ?_⟩
  rw [(List.mem_replicate.1 hs).2]; exact hk
theorem sRoll_key (c : Int) (key : ByteArray) (m : Nat) (k : Nat) (hk : k < m + 1) : (sRoll c key m).keys.getD k ⟨#[]⟩ = key := by
  unfold sRoll
  simp [List.getD, hk]
theorem one_count (r : Rl) (bill : ByteArray) (v : Vt) : cnt r bill [v] = if properB r && validB r bill v then ⟨[v.mem], if v.yes then 1 else 0, if v.yes then 0 else 1, []⟩ else ⟨[], 0, 0, [0]⟩ := by
  unfold cnt
  cases hp : properB r with
  | false => rfl
  | true =>
    simp only [if_true, Bool.true_and]
    have h0 : okB r bill (cntTo r bill [v] 0) v = validB r bill v := rfl
    show cntTo r bill [v] 1 = _
    rw [cntTo_succ _ _ _ _ (by simp)]
    unfold St.step
    rw [List.getElem_cons_zero, h0]
    by_cases hv : validB r bill v = true
    · rw [if_pos hv, if_pos hv]; rfl
    · rw [if_neg hv, if_neg hv]; rfl
theorem signed_counts (s : ByteArray) (h i m : Nat) (b : ByteArray) (c : Int) (y : Bool) (hh : h ≤ 8) (hi : i < 2 ^ h) (hc : c = 1 ∨ c = 2) (hm : m ≤ 9) :
    cnt (sRoll c (publicB s h) m) b [⟨m, b, c, y, i, sigB s i (msgB m b c y), sealPath s h i⟩] = ⟨[(m : Int)], if y then 1 else 0, if y then 0 else 1, []⟩ := by
  have hv : verifyB (publicB s h) (msgB m b c y) i (sigB s i (msgB m b c y)) (sealPath s h i) = true := verifyB_self s _ h i hh hi
  rw [one_count, sRoll_proper c _ m hc hm (verifyB_digest hv)]
  have : validB (sRoll c (publicB s h) m) b ⟨m, b, c, y, i, sigB s i (msgB m b c y), sealPath s h i⟩ = true := by
    unfold validB
    simp only [Bool.and_eq_true, decide_eq_true_eq]
    refine ⟨rfl, trivial, by omega, ?_, ?_⟩
    · show (m : Int) < (List.replicate (m + 1) _).length
      rw [List.length_replicate]; omega
    · rw [sRoll_key _ _ _ _ (by simp)]
      exact hv
  rw [this]
  rfl
theorem signed_other (s : ByteArray) (h i m : Nat) (c : Int) (b' : ByteArray) (m' c' : Int) (y' : Bool) (sig path : List ByteArray)
    (hx : 0 < (cnt (sRoll c (publicB s h) m) b' [⟨m', b', c', y', i, sig, path⟩]).yes + (cnt (sRoll c (publicB s h) m) b' [⟨m', b', c', y', i, sig, path⟩]).no) : verifyB (publicB s h) (msgB m' b' c' y') i sig path = true := by
  rw [one_count] at hx
  cases hv : (properB (sRoll c (publicB s h) m) && validB (sRoll c (publicB s h) m) b' ⟨m', b', c', y', i, sig, path⟩) with
  | false => rw [hv] at hx; simp at hx
  | true =>
    rw [Bool.and_eq_true] at hv
    obtain ⟨_, _, h3, h4, h5⟩ := validB_spec hv.2
    have h4' : m' < ((m + 1 : Nat) : Int) := by
      have : (sRoll c (publicB s h) m).keys.length = m + 1 := List.length_replicate
      rw [this] at h4; exact h4
    have h3' : 0 ≤ m' := h3
    rw [sRoll_key _ _ _ _ (by show m'.toNat < m + 1; omega)] at h5
    exact h5
end Go.Proofs.YtgncahnkkpjdpaaGreatDoor.Dg
namespace Go.Proofs.YtgncahnkkpjdpaaGreatDoor
open Go Go.RowKit
set_option maxHeartbeats 1000000 in
theorem rchain_any (s : ByteArray) (hs : s.size ≤ 4611686018427387000) (n : Int) (w : World) :
    Calls Tryz.prog 59 #[.string s, .int .i64 n] w fun e w' => e = .returned (.string (Dg.chainB s (min n 1000).toNat)) ∧ w = w' := by
  have hN2 : (min n 1000).toNat ≤ 1000 := by omega
  have hN : ∀ k : Nat, ((k : Int) < min n 1000) ↔ k < (min n 1000).toNat := by omega
  generalize hM : (min n 1000).toNat = N at *
  clear hM
  go_enter Tryz.func59, Tryz.ntmps59
  have HN := hide hN; clear hN
  go_wp2
  go_loop [0, 5] (fun v i => ∃ k : Nat, k ≤ N ∧ i = .int .i64 k ∧ v = .string (Dg.chainB s k)) (fun _ i => N - (intOf i).toNat)
  case atStart => exact ⟨0, by omega, rfl, by rw [Dg.chainB_zero]⟩
  case round =>
    obtain ⟨k, hk, rfl, rfl⟩ := hrel
    have hz := Dg.chainB_le s k
    by_cases hlt : k < N
    · have hlt2 := (HN.out k).2 hlt
      go_wp2_with fail
      refine (rsum_any _ (by omega) _).mono ?_
      rintro e w' ⟨rfl, rfl⟩
      go_wp2
      go_round
      case rel => exact ⟨k + 1, by omega, by go_num, rfl⟩
      case measure => simp [intOf]; omega
    · obtain rfl : k = N := by omega
      have hlt2 : ¬ (k : Int) < min n 1000 := fun h => hlt ((HN.out k).1 h)
      go_wp2
      go_ret
      exact ⟨rfl, rfl⟩
end Go.Proofs.YtgncahnkkpjdpaaGreatDoor
/- Start, Key, Keys, Public of the reference (seals). No conditions but those that each theorem states. -/
namespace Go.Proofs.YtgncahnkkpjdpaaGreatDoor
open Go Go.RowKit Go.Sort
theorem rdecS_of (n : Nat) (D : ByteArray) (hD : Dg.decS n = D) (hn : n ≤ 9223372036854775807) (w : World) :
    Calls Tryz.prog 54 #[.int .i64 (n : Int)] w fun e w' => e = .returned (.string D) ∧ w = w' := by
  have e : decB n = D := by rw [← hD, Dg.decS, decB, dec_eq n hn]
  subst e
  exact decimal_any n hn w
theorem rchain_of (s : ByteArray) (n : Int) (k : Nat) (hn : n = k) (C : ByteArray) (hC : Dg.chainB s k = C) (hs : s.size ≤ 1048576) (hk : k ≤ 1000) (w : World) :
    Calls Tryz.prog 59 #[.string s, .int .i64 n] w fun e w' => e = .returned (.string C) ∧ w = w' := by
  subst hn; subst hC
  have e : (min (k : Int) 1000).toNat = k := by omega
  have := rchain_any s (by omega) (k : Int) w
  rw [e] at this
  exact this
def rkeysTo (s : ByteArray) (k : Nat) : List ByteArray := (List.range k).map (Dg.keyB s)
theorem rkeysTo_len (s : ByteArray) (k : Nat) : (rkeysTo s k).length = k := by rw [rkeysTo, List.length_map, List.length_range]
theorem rkeysTo_succ (s : ByteArray) (k : Nat) : rkeysTo s (k + 1) = rkeysTo s k ++ [Dg.keyB s k] := by rw [rkeysTo, List.range_succ, List.map_append]; rfl
theorem keysB_lenB (s : ByteArray) (h : Nat) (hh : h ≤ 8) : 1 ≤ (Dg.keysB s h).length ∧ (Dg.keysB s h).length ≤ 256 := by
  rw [Dg.keysB_len]
  exact ⟨Nat.one_le_two_pow, pow_le8 h hh⟩
end Go.Proofs.YtgncahnkkpjdpaaGreatDoor
/- Made of the reference: the plain part. -/
namespace Go.Proofs.YtgncahnkkpjdpaaGreatDoor
open Go Go.RowKit Go.Sort
theorem decimal_of (n : Nat) (D : ByteArray) (hD : Dg.decS n = D) (hn : n ≤ 9223372036854775807) (w : World) :
    Calls Tryz.prog 54 #[.int .i64 (n : Int)] w fun e w' => e = .returned (.string D) ∧ w = w' := by
  have e : decB n = D := by rw [← hD, Dg.decS, decB, dec_eq n hn]
  subst e
  exact decimal_any n hn w
def madeTo (s : ByteArray) (n i : Nat) : List ByteArray := (List.range i).flatMap (Dg.madeKey s n)
def partTo (s : ByteArray) (n i k : Nat) : List ByteArray := (List.range k).flatMap fun k => Dg.startT s i k :: Dg.chained (Dg.startB s i k) n
def lvTo (s : ByteArray) (i : Nat) : List ByteArray := (List.range i).map fun j => Dg.leafB (Dg.keyB s j)
theorem partTo_succ (s : ByteArray) (n i k : Nat) : partTo s n i (k + 1) = partTo s n i k ++ [Dg.startT s i k] ++ Dg.chained (Dg.startB s i k) n := by
  unfold partTo
  rw [List.range_succ, List.flatMap_append, List.append_assoc]
  simp
theorem partTo_len (s : ByteArray) (n i k : Nat) : (partTo s n i k).length = k * (n + 2) := by
  induction k with
  | zero => simp [partTo]
  | succ k ih => rw [partTo_succ, List.length_append, List.length_append, ih, chained_len, Nat.succ_mul]; simp; omega
theorem madeKey_eq (s : ByteArray) (n i : Nat) : Dg.madeKey s n i = partTo s n i 18 ++ [Dg.jB (endsTo s i 18), Dg.jB [Dg.sLeaf, Dg.keyB s i]] := rfl
theorem madeTo_succ (s : ByteArray) (n i : Nat) : madeTo s n (i + 1) = madeTo s n i ++ partTo s n i 18 ++ [Dg.jB (endsTo s i 18), Dg.jB [Dg.sLeaf, Dg.keyB s i]] := by
  unfold madeTo
  rw [List.range_succ, List.flatMap_append, List.append_assoc, ← madeKey_eq]
  simp
theorem madeTo_len (s : ByteArray) (n i : Nat) : (madeTo s n i).length = i * (18 * (n + 2) + 2) := by
  induction i with
  | zero => simp [madeTo]
  | succ i ih =>
    rw [madeTo_succ, List.length_append, List.length_append, ih, partTo_len]
    generalize 18 * (n + 2) = q
    simp only [List.length_cons, List.length_nil, Nat.succ_mul]
    omega
theorem lvTo_succ (s : ByteArray) (i : Nat) : lvTo s (i + 1) = lvTo s i ++ [Dg.leafB (Dg.keyB s i)] := by unfold lvTo; rw [List.range_succ, List.map_append]; rfl
theorem lvTo_len (s : ByteArray) (i : Nat) : (lvTo s i).length = i := by rw [lvTo, List.length_map, List.length_range]
theorem lvTo_all (s : ByteArray) (h : Nat) : lvTo s (2 ^ h) = Dg.leaves s h := by unfold lvTo Dg.leaves Dg.keysB; rw [List.map_map]; rfl
theorem made_eq (s : ByteArray) (h n : Nat) : Dg.made s h n = madeTo s n (2 ^ h) ++ Dg.lvF (2 ^ h) (lvTo s (2 ^ h)) := by rw [lvTo_all]; rfl
theorem lvTo_16 (s : ByteArray) (i : Nat) : ∀ x ∈ lvTo s i, x.size = 16 := fun x hx => by
  unfold lvTo at hx
  obtain ⟨j, _, rfl⟩ := List.mem_map.1 hx
  exact listB_size _
theorem pairT_take (L : List ByteArray) : ∀ j, ¬ 2 * j + 1 < L.length → Dg.pairT (L.take (2 * j)) = Dg.pairT L ∧ Dg.pairD (L.take (2 * j)) = Dg.pairD L := by
  intro j
  induction j generalizing L with
  | zero =>
    intro h
    match L with
    | [] => exact ⟨rfl, rfl⟩
    | [a] => exact ⟨rfl, rfl⟩
    | a :: b :: r => simp at h
  | succ j ih =>
    intro h
    match L with
    | [] => exact ⟨rfl, rfl⟩
    | [a] => exact ⟨rfl, rfl⟩
    | a :: b :: r =>
      have h2 := ih r (by simp at h; omega)
      rw [show 2 * (j + 1) = (2 * j) + 1 + 1 by omega]
      simp only [List.take_succ_cons, Dg.pairT, Dg.pairD]
      exact ⟨by rw [h2.1], by rw [h2.2]⟩
theorem pairT_more (x y : ByteArray) : ∀ (j : Nat) (L : List ByteArray), L[2 * j]? = some x → L[2 * j + 1]? = some y → Dg.pairT (L.take (2 * (j + 1))) = Dg.pairT (L.take (2 * j)) ++ [Dg.jB [Dg.sNode, x, y]] ∧ Dg.pairD (L.take (2 * (j + 1))) = Dg.pairD (L.take (2 * j)) ++ [Dg.nodeB x y] := by
  intro j
  induction j with
  | zero =>
    intro L hx hy
    match L with
    | [] => simp at hx
    | [a] => simp at hy
    | a :: b :: r =>
      simp at hx hy
      subst hx hy
      exact ⟨rfl, rfl⟩
  | succ j ih =>
    intro L hx hy
    match L with
    | [] => simp at hx
    | [a] => simp at hy
    | a :: b :: r =>
      rw [show 2 * (j + 1) = 2 * j + 1 + 1 by omega] at hx hy
      simp only [List.getElem?_cons_succ] at hx hy
      have h2 := ih r hx hy
      rw [show 2 * (j + 1 + 1) = (2 * (j + 1)) + 1 + 1 by omega, show 2 * (j + 1) = 2 * j + 1 + 1 by omega]
      simp only [List.take_succ_cons, Dg.pairT, Dg.pairD, List.cons_append]
      exact ⟨by rw [← h2.1]; rfl, by rw [← h2.2]; rfl⟩
theorem pairs_len (n : Nat) : ∀ (L : List ByteArray), L.length ≤ n → (Dg.pairT L).length = L.length / 2 ∧ (Dg.pairD L).length = L.length / 2 := by
  induction n using Nat.strongRecOn with
  | _ n ih =>
  intro L hL
  match L with
  | [] => exact ⟨rfl, rfl⟩
  | [a] => exact ⟨by simp [Dg.pairT], by simp [Dg.pairD]⟩
  | a :: b :: r =>
    simp only [List.length_cons] at hL
    have h2 := ih (n - 2) (by omega) r (by omega)
    simp only [Dg.pairT, Dg.pairD, List.length_cons, h2.1, h2.2]
    omega
theorem pairD_16 (n : Nat) : ∀ (L : List ByteArray), L.length ≤ n → ∀ x ∈ Dg.pairD L, x.size = 16 := by
  induction n using Nat.strongRecOn with
  | _ n ih =>
  intro L hL
  match L with
  | [] => intro x hx; cases hx
  | [a] => intro x hx; cases hx
  | a :: b :: r =>
    simp only [List.length_cons] at hL
    intro x hx
    rcases List.mem_cons.1 hx with rfl | hx
    · exact listB_size _
    · exact ih (n - 2) (by omega) r (by omega) x hx
theorem lvF_step (f : Nat) (L : List ByteArray) (h : 1 < L.length) : Dg.lvF (f + 1) L = Dg.pairT L ++ Dg.lvF f (Dg.pairD L) := by
  rw [Dg.lvF, if_neg (by omega)]
theorem lvF_stop (f : Nat) (L : List ByteArray) (h : ¬ 1 < L.length) : Dg.lvF f L = [] := by
  cases f with
  | zero => rfl
  | succ f => rw [Dg.lvF, if_pos (by omega)]
end Go.Proofs.YtgncahnkkpjdpaaGreatDoor
/- Made of the reference, walked. -/
namespace Go.Proofs.YtgncahnkkpjdpaaGreatDoor
open Go Go.RowKit Go.Sort
theorem endsTo_18 (s : ByteArray) (i : Nat) : endsTo s i 18 = Dg.endsOf s i := rfl
theorem Dg.keyB_eq (s : ByteArray) (i : Nat) : Dg.sumB (Dg.jB (endsTo s i 18)) = Dg.keyB s i := by rw [endsTo_18]; exact Dg.sumB_jB _
theorem Dg.leaf_eq (x : ByteArray) : Dg.sumB (Dg.jB [Dg.sLeaf, x]) = Dg.leafB x := rfl
theorem OwnL.strs1 {W : World} {B : Nat} {v : Value} {l : List ByteArray} {rs : List (Value × TypeId × List Value)} (h : OwnL W B (sR v l :: rs)) : ∃ A c, v = .slice A l.length c ∧ l.length ≤ c ∧ Strs W W.heap.size A l := h.headS.strs
theorem sR_snoc (v : Value) (l : List ByteArray) (x : ByteArray) : (v, 9, l.map Value.string ++ [Value.string x]) = sR v (l ++ [x]) := by unfold sR; rw [List.map_append]; rfl
theorem chained_get (S : ByteArray) (n j : Nat) (h : j ≤ n) : (Dg.chained S n)[j]? = some (Dg.chainB S j) := by
  unfold Dg.chained; rw [List.getElem?_map, List.getElem?_range (by omega)]; rfl
end Go.Proofs.YtgncahnkkpjdpaaGreatDoor
/- Checked of the reference: the plain part. -/
namespace Go.Proofs.YtgncahnkkpjdpaaGreatDoor
open Go Go.RowKit Go.Sort
theorem sigAt (sig : List ByteArray) (k : Nat) : sig.getD k ⟨#[]⟩ = (sig[k]?).getD ⟨#[]⟩ := List.getD_eq_getElem?_getD ..
def chTo (m : ByteArray) (sig : List ByteArray) (k : Nat) : List ByteArray := (List.range k).flatMap fun k => Dg.chained (sig.getD k ⟨#[]⟩) (15 - Dg.dig m k)
def enTo (m : ByteArray) (sig : List ByteArray) (k : Nat) : List ByteArray := (List.range k).map fun k => Dg.chainB (sig.getD k ⟨#[]⟩) (15 - Dg.dig m k)
theorem chTo_succ (m : ByteArray) (sig : List ByteArray) (k : Nat) : chTo m sig (k + 1) = chTo m sig k ++ Dg.chained (sig.getD k ⟨#[]⟩) (15 - Dg.dig m k) := by unfold chTo; rw [List.range_succ, List.flatMap_append]; simp
theorem enTo_succ (m : ByteArray) (sig : List ByteArray) (k : Nat) : enTo m sig (k + 1) = enTo m sig k ++ [Dg.chainB (sig.getD k ⟨#[]⟩) (15 - Dg.dig m k)] := by unfold enTo; rw [List.range_succ, List.map_append]; rfl
theorem enTo_18 (m : ByteArray) (sig : List ByteArray) : enTo m sig 18 = Dg.endsB m sig := rfl
theorem chTo_len (m : ByteArray) (sig : List ByteArray) (k : Nat) : (chTo m sig k).length ≤ 16 * k := by
  induction k with
  | zero => simp [chTo]
  | succ k ih => rw [chTo_succ, List.length_append, chained_len]; omega
theorem enTo_len (m : ByteArray) (sig : List ByteArray) (k : Nat) : (enTo m sig k).length = k := by rw [enTo, List.length_map, List.length_range]
theorem foldT_len (q : List ByteArray) : ∀ (i : Nat) (d : ByteArray), (Dg.foldT i d q).length = q.length := by
  induction q with
  | nil => intro _ _; rfl
  | cons a q ih => intro i d; rw [Dg.foldT, List.length_cons, ih, List.length_cons]
theorem isB_ends (m : ByteArray) (sig : List ByteArray) (h : ∀ s ∈ sig, s.size = 16) : ∀ s ∈ Dg.endsB m sig, s.size ≤ 32 := fun x hx => by
  unfold Dg.endsB at hx
  obtain ⟨k, _, rfl⟩ := List.mem_map.1 hx
  have := Dg.chainB_le (sig.getD k ⟨#[]⟩) (15 - Dg.dig m k)
  have h2 : (sig.getD k ⟨#[]⟩).size ≤ 16 := by
    rw [List.getD_eq_getElem?_getD]
    cases hg : sig[k]? with
    | none => decide
    | some s => exact Nat.le_of_eq (h s (List.mem_of_getElem? hg))
  omega
theorem int_cell {W : World} {B g n c : Nat} {T : TypeId} {xs : List Value} {k : Nat} {u : Value} (h : OwnV W B T (.slice (some ⟨g, 0, none⟩) n c) xs) (hu : xs[k]? = some u) : W.cell? ⟨g, k, none⟩ = some u := by
  have hk := (List.getElem?_eq_some_iff.1 hu).1
  rcases h.2 with ⟨h0, _⟩ | ⟨g', cap, cur, h0, _, hgb, _, _, _, htk⟩
  · injection h0 with h1 _ _; cases h1
  · injection h0 with h1 _ _
    injection h1 with h1
    injection h1 with h1 _ _
    subst h1
    rw [cell_of_row _ _ _ _ _ (0, 0) hgb, ← Array.getElem?_toList]
    have h5 : (cur.toList.take (xs.length * 1))[k]? = xs[k]? := by rw [htk]
    rw [List.getElem?_take, if_pos (by omega)] at h5
    rw [h5, hu]
end Go.Proofs.YtgncahnkkpjdpaaGreatDoor
/- Sign of the reference (seals). No conditions but those that each theorem states. -/
namespace Go.Proofs.YtgncahnkkpjdpaaGreatDoor
open Go Go.RowKit Go.Sort
def sgTo (s : ByteArray) (i : Nat) (m : ByteArray) (k : Nat) : List ByteArray := (List.range k).map fun j => Dg.ch s i j (Dg.dig m j)
theorem sgTo_len (s : ByteArray) (i : Nat) (m : ByteArray) (k : Nat) : (sgTo s i m k).length = k := by rw [sgTo, List.length_map, List.length_range]
theorem sgTo_succ (s : ByteArray) (i : Nat) (m : ByteArray) (k : Nat) : sgTo s i m (k + 1) = sgTo s i m k ++ [Dg.ch s i k (Dg.dig m k)] := by rw [sgTo, List.range_succ, List.map_append]; rfl
end Go.Proofs.YtgncahnkkpjdpaaGreatDoor
/- Verify of the reference (seals). No conditions but those that each theorem states. -/
namespace Go.Proofs.YtgncahnkkpjdpaaGreatDoor
open Go Go.RowKit Go.Sort
theorem rpower_same (n : Nat) (hn : n ≤ 60) (R : Nat) (hR : 2 ^ n = R) (w : World) :
    Calls Tryz.prog 57 #[.int .i64 n] w fun e w' => e = .returned (.int .i64 R) ∧ w' = w := (rpower_any n hn R hR w).mono fun _ _ ⟨h1, h2⟩ => ⟨h1, h2.symm⟩
theorem ris_same (s : ByteArray) (r : Bool) (hr : Dg.isB s = r) (hs : s.size ≤ 4611686018427387904) (w : World) :
    Calls Tryz.prog 27 #[.string s] w fun e w' => e = .returned (.bool r) ∧ w = w' := by
  subst hr; exact ris_any s hs w
theorem verifyB_main (p m : ByteArray) (i : Int) (sig path : List ByteArray) (n : Nat) (h1 : sig.length = 18) (h2 : path.length ≤ 8) (h3 : 0 ≤ i) (hn : 2 ^ path.length = n) (h4 : i < (n : Int)) :
    verifyB p m i sig path = ((allDig sig && allDig path) && checkB p (n : Int) i (Dg.listB (Dg.endsB m sig)) path) := by
  subst hn
  unfold verifyB
  rw [decide_eq_true h1, decide_eq_true h2, decide_eq_true h3, decide_eq_true h4]
  simp
theorem allDig_take (l : List ByteArray) (k : Nat) (hk : k < l.length) (h : allDig (l.take k) = true) (hx : Dg.isB l[k] = true) : allDig (l.take (k + 1)) = true := by
  rw [List.take_succ_eq_append_getElem hk]
  exact allDig_yes _ fun x hx2 => by
    rcases List.mem_append.1 hx2 with h1 | h1
    · exact allDig_mem h x h1
    · rw [List.mem_singleton.1 h1]; exact hx
set_option maxRecDepth 100000 in
set_option maxHeartbeats 1000000 in
theorem rverify_a (p m : ByteArray) (i : Int) (A A' : Option Addr) (n n' c c' : Nat) (w : World) (hn : n ≠ 18) :
    Calls Tryz.prog 40 #[.string p, .string m, .agg #[.int .i64 i, .slice A n c, .slice A' n' c']] w fun e w' => e = .returned (.bool false) ∧ Below w.heap.size w w' := by
  have e1 : ((n : Int) == 18) = false := by simp; omega
  have e2 : ((n : Int) != 18) = true := by simp; omega
  have e3 : decide (n = 18) = false := decide_eq_false hn
  go_enter Tryz.func40, Tryz.ntmps40
  go_wp2
  go_quiet (fail)
  go_wp2
  go_ret
  exact ⟨rfl, below_drewN ((Below.refl _ _).alloc (Nat.le_refl _) _) _⟩
set_option maxRecDepth 100000 in
set_option maxHeartbeats 1000000 in
theorem rverify_b (p m : ByteArray) (i : Int) (A A' : Option Addr) (n' c c' : Nat) (w : World) (hn : 8 < n') :
    Calls Tryz.prog 40 #[.string p, .string m, .agg #[.int .i64 i, .slice A 18 c, .slice A' n' c']] w fun e w' => e = .returned (.bool false) ∧ Below w.heap.size w w' := by
  have d2 : decide (8 < (n' : Int)) = true := decide_eq_true (by omega)
  have d3 : decide (8 < n') = true := decide_eq_true hn
  go_enter Tryz.func40, Tryz.ntmps40
  go_wp2
  go_quiet (fail)
  go_wp2
  go_ret
  exact ⟨rfl, below_drewN ((Below.refl _ _).alloc (Nat.le_refl _) _) _⟩
set_option maxRecDepth 100000 in
set_option maxHeartbeats 1000000 in
theorem rverify_c (p m : ByteArray) (i : Int) (A A' : Option Addr) (n' c c' : Nat) (w : World) (hn : n' ≤ 8) (hi : i < 0) :
    Calls Tryz.prog 40 #[.string p, .string m, .agg #[.int .i64 i, .slice A 18 c, .slice A' n' c']] w fun e w' => e = .returned (.bool false) ∧ Below w.heap.size w w' := by
  have d2 : decide (8 < (n' : Int)) = false := decide_eq_false (by omega)
  have d3 : decide (8 < n') = false := decide_eq_false (by omega)
  have d4 : decide (i < 0) = true := decide_eq_true hi
  go_enter Tryz.func40, Tryz.ntmps40
  go_wp2
  go_quiet (fail)
  go_wp2
  go_ret
  exact ⟨rfl, below_drewN ((Below.refl _ _).alloc (Nat.le_refl _) _) _⟩
set_option maxRecDepth 100000 in
set_option maxHeartbeats 1000000 in
theorem rverify_d (p m : ByteArray) (i : Int) (A A' : Option Addr) (n' c c' N : Nat) (w : World) (hn : n' ≤ 8) (hN : 2 ^ n' = N) (h0 : 0 ≤ i) (hi : (N : Int) ≤ i) :
    Calls Tryz.prog 40 #[.string p, .string m, .agg #[.int .i64 i, .slice A 18 c, .slice A' n' c']] w fun e w' => e = .returned (.bool false) ∧ Below w.heap.size w w' := by
  have d2 : decide (8 < (n' : Int)) = false := decide_eq_false (by omega)
  have d3 : decide (8 < n') = false := decide_eq_false (by omega)
  have d4 : decide (i < 0) = false := decide_eq_false (by omega)
  have d5 : decide ((N : Int) ≤ i) = true := decide_eq_true hi
  have HN := hide hN; clear hN
  go_enter Tryz.func40, Tryz.ntmps40
  go_wp2
  go_quiet ((go_at_call 57; exact Calls.quiet_of_same (rpower_same n' (by omega) N HN.out _)))
  go_wp2
  go_ret
  exact ⟨rfl, below_drewN ((Below.refl _ _).alloc (Nat.le_refl _) _) _⟩
set_option maxRecDepth 100000 in
set_option maxHeartbeats 4000000 in
theorem rverify_e (p m : ByteArray) (i : Nat) (A A' : Option Addr) (n' c c' N : Nat) (sig path : List ByteArray) (w : World) (hm : m.size ≤ 4611686018427387904) (hn : n' ≤ 8) (hN : 2 ^ n' = N) (hi : i < N) (hl : sig.length = 18) (hz : ∀ s ∈ sig, s.size ≤ 1048576) (hS : Strs w w.heap.size A sig)
    (hl2 : path.length = n') (hz2 : ∀ s ∈ path, s.size ≤ 1048576) (hS2 : Strs w w.heap.size A' path) (hc' : n' ≤ c') (R : Bool) (hR : ((allDig sig && allDig path) && checkB p (N : Int) i (Dg.listB (Dg.endsB m sig)) path) = R) :
    Calls Tryz.prog 40 #[.string p, .string m, .agg #[.int .i64 i, .slice A 18 c, .slice A' n' c']] w fun e w' => e = .returned (.bool R) ∧ Below w.heap.size w w' := by
  have hN256 : N ≤ 256 := by rw [← hN]; exact pow_le8 n' hn
  have d2 : decide (8 < (n' : Int)) = false := decide_eq_false (by omega)
  have d3 : decide (8 < n') = false := decide_eq_false (by omega)
  have d4 : decide ((i : Int) < 0) = false := decide_eq_false (by omega)
  have d5 : decide ((N : Int) ≤ (i : Int)) = false := decide_eq_false (by omega)
  have d6 : decide (N ≤ i) = false := decide_eq_false (by omega)
  have HN := hide hN; clear hN
  have hl' := hide hl; have hz' := hide hz; have hl2' := hide hl2; have hz2' := hide hz2; have HR := hide hR
  clear hl hz hl2 hz2 hR
  go_enter Tryz.func40, Tryz.ntmps40
  go_wp2
  go_quiet ((go_at_call 57; exact Calls.quiet_of_same (rpower_same n' (by omega) N HN.out _)))
  go_wp2_with fail
  have hW : Below w.heap.size w ((w.alloc (.cells #[.int .i64 (i : Int), .slice A 18 c, .slice A' n' c'] 32)).drewN nq) := below_drewN ((Below.refl _ _).alloc (Nat.le_refl _) _) nq
  have r0 : ((w.alloc (.cells #[.int .i64 (i : Int), .slice A 18 c, .slice A' n' c'] 32)).drewN nq).heap[w.heap.size]? = some (.cells #[.int .i64 (i : Int), .slice A 18 c, .slice A' n' c'] 32) := heap_alloc_new w _
  replace hS := keepS hS hW
  replace hS2 := keepS hS2 hW
  generalize (w.alloc (.cells #[.int .i64 (i : Int), .slice A 18 c, .slice A' n' c'] 32)).drewN nq = W0 at *
  clear d2 d3 d4 d5 d6
  refine (rdigs_any m hm W0).mono ?_
  rintro e w1 ⟨⟨vd, rfl, hD⟩, hb1⟩
  have hdl := digI_len m 18
  obtain ⟨gd, cd, rfl⟩ : ∃ g c, vd = .slice (some ⟨g, 0, none⟩) 18 c := by
    rcases hD.2 with ⟨_, h0⟩ | ⟨g, cap, cur, h0, _⟩
    · rw [hdl] at h0; cases h0
    · exact ⟨g, cap, by rw [h0, hdl]⟩
  have hL1 : OwnL w1 W0.heap.size [sR (.slice none 0 0) [], (.slice (some ⟨gd, 0, none⟩) 18 cd, 3, digI m 18)] := (OwnL.mk (rs := [(.slice (some ⟨gd, 0, none⟩) 18 cd, 3, digI m 18)]) (fun r hr => by rw [List.mem_singleton.1 hr]; exact hD) (List.pairwise_singleton _ _)).emptyS
  clear hD
  go_wp2
  go_loopw [8, 9] (fun ev kv wr => ∃ k : Nat, k ≤ 18 ∧ kv = .int .i64 k ∧ Below W0.heap.size W0 wr ∧ OwnL wr W0.heap.size [sR ev (enTo m sig k), (.slice (some ⟨gd, 0, none⟩) 18 cd, 3, digI m 18)] ∧ Hid (allDig (sig.take k) = true)) (fun _ kv _ => 18 - (intOf kv).toNat)
  case atStart => exact ⟨0, by omega, rfl, hb1, hL1, rfl⟩
  case round =>
    obtain ⟨k, hk, rfl, hbr, hLr, hTk⟩ := hrel
    have rr := row_next r0 hbr
    obtain ⟨f1, f2, f3⟩ := cells3 rr
    have hrl : w.heap.size < wr.heap.size := (Array.getElem?_eq_some_iff.1 rr).1
    by_cases hlt : k < 18
    · have hkl : k < sig.length := by rw [hl'.out]; exact hlt
      obtain ⟨b, off, rfl, hbl, hcell⟩ := (keepS hS hbr).get hkl
      have hxz := hz'.out sig[k] (List.getElem_mem hkl)
      have hxm := hide (List.getElem_mem hkl)
      have hgx := hide (getD_eq sig k hkl)
      have hTx := hide (allDig_take sig k hkl hTk.out)
      have hd15 := Dg.dig_le m k
      have hdi := hide (digI_get m 18 k hlt)
      have hdc := int_cell hLr.swap.head hdi.out
      have hgdl : gd < wr.heap.size := block_lt_of_cell hdc
      have hes := hide (enTo_succ m sig k)
      have hel := enTo_len m sig k
      rw [hgx.out] at hes
      generalize Dg.dig m k = d at *
      generalize sig[k] = x at *
      obtain ⟨D, hD⟩ : ∃ D : Nat, 15 - d = D := ⟨_, rfl⟩
      have hD15 : D ≤ 15 := by omega
      have e15 : (15 : Int) - (d : Int) = (D : Int) := by omega
      rw [hD] at hes
      clear hD
      generalize hC : Dg.chainB x D = C at *
      have HC := hide hC; clear hC
      generalize enTo m sig k = E at *
      have hk0 : (0 : Int) ≤ (k : Int) := by omega
      have hk1 : (k : Int) < 18 := by omega
      go_wp2_with fail
      cases hx : Dg.isB x with
      | false =>
        refine (ris_same x false hx (by omega) wr).mono ?_
        rintro e w2 ⟨rfl, rfl⟩
        have hRf : R = false := by
          rw [← HR.out, allDig_no sig x hxm.out hx]; rfl
        subst hRf
        clear HR hx
        go_wp2
        go_ret
        exact ⟨rfl, bnext hW hbr⟩
      | true =>
        have hT1 := hide (hTx.out hx)
        refine (ris_same x true hx (by omega) wr).mono ?_
        rintro e w2 ⟨rfl, rfl⟩
        clear hx hTx hxm
        go_wp2
        have hmx : Tryz.prog.follows .mixedOrders = true := by kernel_rfl
        have hHeld : (fun W : World => W.cell? ⟨w.heap.size, 1, none⟩ = some (.slice (some ⟨b, off, none⟩) 18 c) ∧ W.cell? ⟨b, off + k, none⟩ = some (.string x) ∧ W.cell? ⟨gd, k, none⟩ = some (.int .i64 (d : Int))) wr.drew := ⟨f2, hcell, hdc⟩
        refine wp_region_noPanic ?_
        refine wp_region_L (fun W : World => W.cell? ⟨w.heap.size, 1, none⟩ = some (.slice (some ⟨b, off, none⟩) 18 c) ∧ W.cell? ⟨b, off + k, none⟩ = some (.string x) ∧ W.cell? ⟨gd, k, none⟩ = some (.int .i64 (d : Int))) 13 hmx ?_
        refine wpAnyL_take (i := 0) (f0 := 16) (v := ?_) rfl (by decide +kernel) (by decide +kernel) (by decide +kernel) (by decide +kernel) (by decide +kernel) (fun _ _ _ h => h) (Or.inl ⟨by rfl, ?_⟩) hHeld ?_
        rotate_left
        · intro wS hS; obtain ⟨hS1, hS2, hS3⟩ := hS; go_simp; (try with_reducible rfl)
        simp only [Act.put, List.setIfInBounds_toArray]
        refine wpAnyL_take (i := 1) (f0 := 16) (v := ?_) rfl (by decide +kernel) (by decide +kernel) (by decide +kernel) (by decide +kernel) (by decide +kernel) (fun _ _ _ h => h) (Or.inl ⟨by rfl, ?_⟩) hHeld ?_
        rotate_left
        · intro wS hS; obtain ⟨hS1, hS2, hS3⟩ := hS; go_simp; (try with_reducible rfl)
        simp only [Act.put]
        refine wpAnyL_take (i := 2) (f0 := 16) (v := ?_) rfl (by decide +kernel) (by decide +kernel) (by decide +kernel) (by decide +kernel) (by decide +kernel) (fun _ _ _ h => h) (Or.inl ⟨by rfl, ?_⟩) hHeld ?_
        rotate_left
        · intro wS hS; obtain ⟨hS1, hS2, hS3⟩ := hS; go_simp; (try with_reducible rfl)
        simp only [Act.put]
        refine wpAnyL_take (i := 3) (f0 := 16) (v := ?_) rfl (by decide +kernel) (by decide +kernel) (by decide +kernel) (by decide +kernel) (by decide +kernel) (fun _ _ _ h => h) (Or.inl ⟨by rfl, ?_⟩) hHeld ?_
        rotate_left
        · intro wS hS; obtain ⟨hS1, hS2, hS3⟩ := hS; go_simp; (try with_reducible rfl)
        simp only [Act.put]
        refine wpAnyL_take (i := 4) (f0 := 16) (v := ?_) rfl (by decide +kernel) (by decide +kernel) (by decide +kernel) (by decide +kernel) (by decide +kernel) (fun _ _ _ h => h) (Or.inl ⟨by rfl, ?_⟩) hHeld ?_
        rotate_left
        · intro wS hS; obtain ⟨hS1, hS2, hS3⟩ := hS; go_simp; (try with_reducible rfl)
        simp only [Act.put]
        refine wpAnyL_take (i := 5) (f0 := 16) (v := ?_) rfl (by decide +kernel) (by decide +kernel) (by decide +kernel) (by decide +kernel) (by decide +kernel) (fun _ _ _ h => h) (Or.inl ⟨by rfl, ?_⟩) hHeld ?_
        rotate_left
        · intro wS hS; obtain ⟨hS1, hS2, hS3⟩ := hS; go_simp; (try with_reducible rfl)
        simp only [Act.put]
        refine wpAnyL_take (i := 6) (f0 := 16) (v := ?_) rfl (by decide +kernel) (by decide +kernel) (by decide +kernel) (by decide +kernel) (by decide +kernel) (fun _ _ _ h => h) (Or.inl ⟨by rfl, ?_⟩) hHeld ?_
        rotate_left
        · intro wS hS; obtain ⟨hS1, hS2, hS3⟩ := hS; go_simp; (try with_reducible rfl)
        simp only [Act.put]
        refine wpAnyL_take (i := 7) (f0 := 16) (v := ?_) rfl (by decide +kernel) (by decide +kernel) (by decide +kernel) (by decide +kernel) (by decide +kernel) (fun _ _ _ h => h) (Or.inl ⟨by rfl, ?_⟩) hHeld ?_
        rotate_left
        · intro wS hS; obtain ⟨hS1, hS2, hS3⟩ := hS; go_simp; (try with_reducible rfl)
        simp only [Act.put]
        refine wpAnyL_take (i := 8) (f0 := 16) (v := ?_) rfl (by decide +kernel) (by decide +kernel) (by decide +kernel) (by decide +kernel) (by decide +kernel) (fun _ _ _ h => h) (Or.inl ⟨by rfl, ?_⟩) hHeld ?_
        rotate_left
        · intro wS hS; obtain ⟨hS1, hS2, hS3⟩ := hS; go_simp; (try with_reducible rfl)
        simp only [Act.put]
        refine wpAnyL_take (i := 9) (f0 := 16) (v := ?_) rfl (by decide +kernel) (by decide +kernel) (by decide +kernel) (by decide +kernel) (by decide +kernel) (fun _ _ _ h => h) (Or.inl ⟨by rfl, ?_⟩) hHeld ?_
        rotate_left
        · intro wS hS; obtain ⟨hS1, hS2, hS3⟩ := hS; go_simp; (try with_reducible rfl)
        simp only [Act.put]
        refine wpAnyL_take (i := 10) (f0 := 16) (v := ?_) rfl (by decide +kernel) (by decide +kernel) (by decide +kernel) (by decide +kernel) (by decide +kernel) (fun _ _ _ h => h) (Or.inl ⟨by rfl, ?_⟩) hHeld ?_
        rotate_left
        · intro wS hS; obtain ⟨hS1, hS2, hS3⟩ := hS; go_simp; (try with_reducible rfl)
        simp only [Act.put]
        refine wpAnyL_one (i := 11) (by decide +kernel) (by rfl) (fun K hK => ?_)
        rw [if_pos (by rfl)]
        go_simp
        refine (rchain_of x _ D (IntWalk.i64_in (D : Int) (by omega)) C HC.out (by omega) (by omega) _).mono ?_
        rintro e w3 ⟨rfl, rfl⟩
        refine hK.out _ _ (Or.inr hHeld) ?_
        clear hK K
        try simp only [Act.put, List.setIfInBounds_toArray, List.set_cons_zero, List.set_cons_succ]
        have hLa : OwnL wr.drew W0.heap.size [sR _ E, (.slice (some ⟨gd, 0, none⟩) 18 cd, 3, digI m 18)] := hLr.below (Below.refl wr.heap.size wr).drew
        refine wpAnyL_one (i := 12) (by decide +kernel) (by rfl) (fun K hK => ?_)
        rw [if_pos (by rfl)]
        go_simp
        have hx := Below.news (Below.refl wr.drew.heap.size wr.drew) (.cells #[.string C] 9)
        have hHb : (fun W : World => W.cell? ⟨w.heap.size, 1, none⟩ = some (.slice (some ⟨b, off, none⟩) 18 c) ∧ W.cell? ⟨b, off + k, none⟩ = some (.string x) ∧ W.cell? ⟨gd, k, none⟩ = some (.int .i64 (d : Int))) (wr.drew.alloc (.cells #[.string C] 9)) := ⟨(hx.cell (block_lt_of_cell hHeld.1)).trans hHeld.1, (hx.cell (block_lt_of_cell hHeld.2.1)).trans hHeld.2.1, (hx.cell (block_lt_of_cell hHeld.2.2)).trans hHeld.2.2⟩
        refine hK.out _ _ (Or.inr hHb) ?_
        clear hK K
        try simp only [Act.put, List.setIfInBounds_toArray, List.set_cons_zero, List.set_cons_succ]
        refine wpAnyL_one (i := 13) (by decide +kernel) (by rfl) (fun K hK => ?_)
        rw [if_pos (by rfl)]
        refine wp_al (.tmp 48) (.tmp 60) 22 9 _ 16 (by rfl) Tryz.underlying22 strInfo rfl (by omega) W0.heap.size _ _ _ (by rfl) (hLa.below hx) _ 1 1 [.string C] (by rfl) rfl (Src.lit wr.drew #[.string C] 9 (fun u hu => by rw [List.mem_singleton.1 hu]; rfl)) (by rw [List.length_map]; omega) (Nat.le_trans hbr.size hx.size) ?_
        intro v5 w5 hL5 hb5
        rw [sR_snoc, ← hes.out] at hL5
        have hb6 := ((hbr.drew).trans (hx.mono hbr.size)).trans hb5
        refine hK.out _ _ (Or.inl (by decide +kernel)) ?_
        clear hK K
        try simp only [Act.put, List.setIfInBounds_toArray]
        refine wpAnyL_one (i := 14) (by decide +kernel) (by rfl) (fun K hK => ?_)
        rw [if_pos (by rfl)]
        go_simp
        refine hK.out _ _ (Or.inl (by decide +kernel)) ?_
        clear hK K
        try simp only [Act.put, List.setIfInBounds_toArray, List.set_cons_zero, List.set_cons_succ]
        refine wpAnyL_done (by decide +kernel) ?_ _
        refine NoPanic.normal ?_
        clear hHeld hHb f1 f2 f3 hcell hdc
        go_wp2
        go_roundw
        case rel => exact ⟨k + 1, by omega, by go_num, hb6, hL5, hT1⟩
        case measure => simp [intOf]; omega
    · obtain rfl : k = 18 := by omega
      rw [show ((18 : Nat) : Int) = (18 : Int) from rfl]
      have hes : OwnL wr W0.heap.size [sR u8 (Dg.endsB m sig), (.slice (some ⟨gd, 0, none⟩) 18 cd, 3, digI m 18)] := hLr
      have hAll : Hid (allDig sig = true) := by
        have h1 := hTk.out
        rw [List.take_of_length_le (by rw [hl'.out]; decide)] at h1
        exact h1
      have hel := hide (Dg.endsB_len m sig)
      have hez := hide (fun x (hx : x ∈ Dg.endsB m sig) => (Nat.le_trans (isB_ends m sig (allDig_16 hAll.out) x hx) (by decide) : x.size ≤ 1048576))
      generalize Dg.endsB m sig = ES at *
      obtain ⟨A1, c1, hv, hc1, hS1⟩ := OwnS.strs (l := ES) (OwnL.headS (l := ES) hes)
      rw [hel.out] at hv hc1
      subst hv
      rw [hAll.out, Bool.true_and] at HR
      obtain ⟨LB, hLB⟩ : ∃ LB, Dg.listB ES = LB := ⟨_, rfl⟩
      rw [hLB] at HR
      have hLz : LB.size = 16 := by rw [← hLB]; exact listB_size _
      have HLB := hide hLB
      clear hLB hLr hes hTk
      go_wp2
      go_loop [10] (fun jv => ∃ j : Nat, j ≤ n' ∧ jv = .int .i64 j ∧ Hid (allDig (path.take j) = true)) (fun jv => n' - (intOf jv).toNat)
      case atStart => exact ⟨0, by omega, rfl, rfl⟩
      case round =>
        obtain ⟨j, hj, rfl, hTj⟩ := hrel
        by_cases hlt2 : j < n'
        · have hjl : j < path.length := by rw [hl2'.out]; exact hlt2
          obtain ⟨b, off, rfl, hbl, hcell⟩ := (keepS hS2 hbr).get hjl
          have hxz := hz2'.out path[j] (List.getElem_mem hjl)
          have hxm := hide (List.getElem_mem hjl)
          have hTx := hide (allDig_take path j hjl hTj.out)
          generalize path[j] = x at *
          go_wp2_with fail
          cases hx : Dg.isB x with
          | false =>
            refine (ris_same x false hx (by omega) wr).mono ?_
            rintro e w2 ⟨rfl, rfl⟩
            have hRf : R = false := by
              rw [← HR.out, allDig_no path x hxm.out hx]; rfl
            subst hRf
            clear HR hx
            go_wp2
            go_ret
            exact ⟨rfl, bnext hW hbr⟩
          | true =>
            have hT1 := hide (hTx.out hx)
            refine (ris_same x true hx (by omega) wr).mono ?_
            rintro e w2 ⟨rfl, rfl⟩
            clear hx hTx hxm
            go_wp2
            go_round
            case rel => exact ⟨j + 1, by omega, by go_num, hT1⟩
            case measure => simp [intOf]; omega
        · obtain rfl : j = n' := by omega
          have hAp : Hid (allDig path = true) := by
            have h1 := hTj.out
            rw [List.take_of_length_le (by rw [hl2'.out]; exact Nat.le_refl _)] at h1
            exact h1
          rw [hAp.out, Bool.true_and] at HR
          clear hTj
          go_wp2
          have hmx : Tryz.prog.follows .mixedOrders = true := by kernel_rfl
          have hHeld : (fun W : World => W.cell? ⟨w.heap.size, 0, none⟩ = some (.int .i64 (i : Int)) ∧ W.cell? ⟨w.heap.size, 2, none⟩ = some (.slice A' j c')) wr.drew := ⟨f1, f3⟩
          refine wp_region_noPanic ?_
          refine wp_region_L (fun W : World => W.cell? ⟨w.heap.size, 0, none⟩ = some (.int .i64 (i : Int)) ∧ W.cell? ⟨w.heap.size, 2, none⟩ = some (.slice A' j c')) 13 hmx ?_
          refine wpAnyL_take (i := 0) (f0 := 16) (v := ?_) rfl (by decide +kernel) (by decide +kernel) (by decide +kernel) (by decide +kernel) (by decide +kernel) (fun _ _ _ h => h) (Or.inl ⟨by rfl, ?_⟩) hHeld ?_
          rotate_left
          · intro wS hS; obtain ⟨hS1, hS2⟩ := hS; go_simp; (try with_reducible rfl)
          simp only [Act.put, List.setIfInBounds_toArray]
          refine wpAnyL_take (i := 1) (f0 := 16) (v := ?_) rfl (by decide +kernel) (by decide +kernel) (by decide +kernel) (by decide +kernel) (by decide +kernel) (fun _ _ _ h => h) (Or.inl ⟨by rfl, ?_⟩) hHeld ?_
          rotate_left
          · intro wS hS; obtain ⟨hS1, hS2⟩ := hS; go_simp; (try with_reducible rfl)
          simp only [Act.put]
          refine wpAnyL_take (i := 2) (f0 := 16) (v := ?_) rfl (by decide +kernel) (by decide +kernel) (by decide +kernel) (by decide +kernel) (by decide +kernel) (fun _ _ _ h => h) (Or.inl ⟨by rfl, ?_⟩) hHeld ?_
          rotate_left
          · intro wS hS; obtain ⟨hS1, hS2⟩ := hS; go_simp; (try with_reducible rfl)
          simp only [Act.put]
          refine wpAnyL_take (i := 3) (f0 := 16) (v := ?_) rfl (by decide +kernel) (by decide +kernel) (by decide +kernel) (by decide +kernel) (by decide +kernel) (fun _ _ _ h => h) (Or.inl ⟨by rfl, ?_⟩) hHeld ?_
          rotate_left
          · intro wS hS; obtain ⟨hS1, hS2⟩ := hS; go_simp; (try with_reducible rfl)
          simp only [Act.put]
          refine wpAnyL_take (i := 5) (f0 := 16) (v := ?_) rfl (by decide +kernel) (by decide +kernel) (by decide +kernel) (by decide +kernel) (by decide +kernel) (fun _ _ _ h => h) (Or.inl ⟨by rfl, ?_⟩) hHeld ?_
          rotate_left
          · intro wS hS; obtain ⟨hS1, hS2⟩ := hS; go_simp; (try with_reducible rfl)
          simp only [Act.put]
          refine wpAnyL_take (i := 6) (f0 := 16) (v := ?_) rfl (by decide +kernel) (by decide +kernel) (by decide +kernel) (by decide +kernel) (by decide +kernel) (fun _ _ _ h => h) (Or.inl ⟨by rfl, ?_⟩) hHeld ?_
          rotate_left
          · intro wS hS; obtain ⟨hS1, hS2⟩ := hS; go_simp; (try with_reducible rfl)
          simp only [Act.put]
          refine wpAnyL_take (i := 7) (f0 := 16) (v := ?_) rfl (by decide +kernel) (by decide +kernel) (by decide +kernel) (by decide +kernel) (by decide +kernel) (fun _ _ _ h => h) (Or.inl ⟨by rfl, ?_⟩) hHeld ?_
          rotate_left
          · intro wS hS; obtain ⟨hS1, hS2⟩ := hS; go_simp; (try with_reducible rfl)
          simp only [Act.put]
          refine wpAnyL_take (i := 9) (f0 := 16) (v := ?_) rfl (by decide +kernel) (by decide +kernel) (by decide +kernel) (by decide +kernel) (by decide +kernel) (fun _ _ _ h => h) (Or.inl ⟨by rfl, ?_⟩) hHeld ?_
          rotate_left
          · intro wS hS; obtain ⟨hS1, hS2⟩ := hS; go_simp; (try with_reducible rfl)
          simp only [Act.put]
          refine wpAnyL_take (i := 10) (f0 := 16) (v := ?_) rfl (by decide +kernel) (by decide +kernel) (by decide +kernel) (by decide +kernel) (by decide +kernel) (fun _ _ _ h => h) (Or.inl ⟨by rfl, ?_⟩) hHeld ?_
          rotate_left
          · intro wS hS; obtain ⟨hS1, hS2⟩ := hS; go_simp; (try with_reducible rfl)
          simp only [Act.put]
          refine wpAnyL_one (i := 4) (by decide +kernel) (by rfl) (fun K hK => ?_)
          rw [if_pos (by rfl)]
          go_simp
          refine (rpower_any j (by omega) N HN.out _).mono ?_
          rintro e w3 ⟨rfl, rfl⟩
          refine hK.out _ _ (Or.inr hHeld) ?_
          clear hK K
          try simp only [Act.put, List.setIfInBounds_toArray, List.set_cons_zero, List.set_cons_succ]
          refine wpAnyL_one (i := 8) (by decide +kernel) (by rfl) (fun K hK => ?_)
          rw [if_pos (by rfl)]
          go_simp
          refine (rlist_of A1 c1 18 ES hel.out LB HLB.out _ (by rw [hel.out]; decide) (joined_16 ES (by rw [hel.out]; decide) hez.out) hez.out (keepS hS1 (Below.refl wr.heap.size wr).drew)).mono ?_
          rintro e w3 ⟨rfl, hb3⟩
          have hb3 := below_undrew hb3
          have hH3 : (fun W : World => W.cell? ⟨w.heap.size, 0, none⟩ = some (.int .i64 (i : Int)) ∧ W.cell? ⟨w.heap.size, 2, none⟩ = some (.slice A' j c')) w3 := ⟨(hb3.cell hrl).trans f1, (hb3.cell hrl).trans f3⟩
          refine hK.out _ _ (Or.inr hH3) ?_
          clear hK K
          try simp only [Act.put, List.setIfInBounds_toArray, List.set_cons_zero, List.set_cons_succ]
          refine wpAnyL_one (i := 11) (by decide +kernel) (by rfl) (fun K hK => ?_)
          rw [if_pos (by rfl)]
          go_simp
          refine (rcheck_of p N i LB A' c' j path R HR.out _ hl2'.out (by omega) hc' hz2'.out (by omega) (keepS (keepS hS2 hbr) hb3)).mono ?_
          rintro e w4 ⟨rfl, hb4⟩
          have hH4 : (fun W : World => W.cell? ⟨w.heap.size, 0, none⟩ = some (.int .i64 (i : Int)) ∧ W.cell? ⟨w.heap.size, 2, none⟩ = some (.slice A' j c')) w4 := ⟨(hb4.cell (Nat.lt_of_lt_of_le hrl hb3.size)).trans hH3.1, (hb4.cell (Nat.lt_of_lt_of_le hrl hb3.size)).trans hH3.2⟩
          refine hK.out _ _ (Or.inr hH4) ?_
          clear hK K
          try simp only [Act.put, List.setIfInBounds_toArray, List.set_cons_zero, List.set_cons_succ]
          refine wpAnyL_take (i := 12) (f0 := 16) (v := ?_) rfl (by decide +kernel) (by decide +kernel) (by decide +kernel) (by decide +kernel) (by decide +kernel) (fun _ _ _ h => h) (Or.inl ⟨by rfl, ?_⟩) hH4 ?_
          rotate_left
          · intro wS hS; obtain ⟨hS1, hS2⟩ := hS; go_simp; (try with_reducible rfl)
          simp only [Act.put, List.setIfInBounds_toArray]
          refine wpAnyL_done (by decide +kernel) ?_ _
          refine NoPanic.normal ?_
          go_wp2
          go_ret
          exact ⟨rfl, bnext (bnext (bnext hW hbr) hb3) hb4⟩
theorem rverify_of (p m : ByteArray) (i : Int) (A A' : Option Addr) (n n' c c' : Nat) (sig path : List ByteArray) (w : World) (hm : m.size ≤ 4611686018427387904) (hl : sig.length = n) (hz : ∀ s ∈ sig, s.size ≤ 1048576) (hS : Strs w w.heap.size A sig)
    (hl2 : path.length = n') (hz2 : ∀ s ∈ path, s.size ≤ 1048576) (hS2 : Strs w w.heap.size A' path) (hc' : n' ≤ c') (R : Bool) (hR : verifyB p m i sig path = R) :
    Calls Tryz.prog 40 #[.string p, .string m, .agg #[.int .i64 i, .slice A n c, .slice A' n' c']] w fun e w' => e = .returned (.bool R) ∧ Below w.heap.size w w' := by
  by_cases h1 : n = 18
  · subst h1
    by_cases h2 : n' ≤ 8
    · by_cases h3 : i < 0
      · have hRf : R = false := by
          rw [← hR]
          exact verifyB_not fun hh => by omega
        subst hRf
        exact rverify_c p m i A A' n' c c' w h2 h3
      · obtain ⟨k, rfl⟩ := Int.eq_ofNat_of_zero_le (Int.not_lt.1 h3)
        obtain ⟨N, hN⟩ : ∃ N, 2 ^ n' = N := ⟨_, rfl⟩
        by_cases h4 : k < N
        · rw [verifyB_main p m k sig path N hl (by omega) (by omega) (by rw [hl2]; exact hN) (by omega)] at hR
          exact rverify_e p m k A A' n' c c' N sig path w hm h2 hN h4 hl hz hS hl2 hz2 hS2 hc' R hR
        · have hRf : R = false := by
            rw [← hR]
            exact verifyB_not fun hh => by
              have := hh.2.2.2.1
              rw [hl2, hN] at this
              omega
          subst hRf
          exact rverify_d p m k A A' n' c c' N w h2 hN (by omega) (by omega)
    · have hRf : R = false := by
        rw [← hR]
        exact verifyB_not fun hh => by omega
      subst hRf
      exact rverify_b p m i A A' n' c c' w (by omega)
  · have hRf : R = false := by
      rw [← hR]
      exact verifyB_not fun hh => by omega
    subst hRf
    exact rverify_a p m i A A' n n' c c' w h1
end Go.Proofs.YtgncahnkkpjdpaaGreatDoor
/- Message, Valid of the reference of layer 39. No conditions but those that each theorem states. -/
namespace Go.Proofs.YtgncahnkkpjdpaaGreatDoor
open Go Go.RowKit Go.Sort Go.Maps
theorem Dg.msgL_joined (m : Int) (b : ByteArray) (c : Int) (y : Bool) (hb : b.size ≤ 100) (m0 : -9223372036854775808 ≤ m) (m1 : m ≤ 9223372036854775807) (c0 : -9223372036854775808 ≤ c) (c1 : c ≤ 9223372036854775807) : (Dg.joinedL (Dg.msgL m b c y)).length ≤ 605 :=
  Nat.le_trans (Dg.joinedL_len_le (Dg.msgL m b c y) 100 (Dg.msgL_sizes m b c y hb m0 m1 c0 c1)) (by show 5 * (100 + 21) ≤ 605; decide)
set_option maxRecDepth 100000 in
set_option maxHeartbeats 4000000 in
theorem rvmsg_of (m : Int) (b : ByteArray) (c : Int) (y : Bool) (i : Int) (A1 A2 : Option Addr) (n1 e1 n2 e2 : Nat) (m0 : -9223372036854775808 ≤ m) (m1 : m ≤ 9223372036854775807) (c0 : -9223372036854775808 ≤ c) (c1 : c ≤ 9223372036854775807) (hb : b.size ≤ 100) (R : ByteArray) (hR : Dg.msgB m b c y = R) (w : World) :
    Calls Tryz.prog 7 #[.agg #[.int .i64 m, .string b, .int .i64 c, .bool y, .int .i64 i, .slice A1 n1 e1, .slice A2 n2 e2]] w fun e w' => e = .returned (.string R) ∧ Below w.heap.size w w' := by
  have hj := hide (Dg.msgL_joined m b c y hb m0 m1 c0 c1)
  have hz := hide (Dg.msgL_sizes m b c y hb m0 m1 c0 c1)
  have hl : Hid ((Dg.msgL m b c y).length = 5) := rfl
  have HR := hide (show Dg.listB (Dg.msgL m b c y) = R from hR)
  have HM := hide (And.intro m0 (And.intro m1 (And.intro c0 c1)))
  clear hR m0 m1 c0 c1 hb
  have hx := Below.news (Below.refl w.heap.size w) (.cells #[.int .i64 m, .string b, .int .i64 c, .bool y, .int .i64 i, .slice A1 n1 e1, .slice A2 n2 e2] 34)
  go_enter Tryz.func7, Tryz.ntmps7
  go_wp2_with fail
  refine (rfields_of m b c y i A1 A2 n1 e1 n2 e2 HM.out.1 HM.out.2.1 HM.out.2.2.1 HM.out.2.2.2 _).mono ?_
  rintro r w1 ⟨A, d, rfl, hS, _, hb1⟩
  generalize Dg.msgL m b c y = L at *
  go_wp2_with fail
  refine (rlist_of A d 5 L hl.out R HR.out _ (by rw [hl.out]; decide) (Nat.le_trans hj.out (by decide)) (fun s hs => Nat.le_trans (hz.out s hs) (by decide)) hS).mono ?_
  rintro r w2 ⟨rfl, hb2⟩
  go_wp2
  go_ret
  exact ⟨rfl, bnext (bnext hx hb1) hb2⟩
set_option maxRecDepth 100000 in
set_option maxHeartbeats 8000000 in
theorem rvalid_of (ch q nu de : Int) (A : Option Addr) (n e : Nat) (K : List ByteArray) (bill : ByteArray) (m : Int) (b : ByteArray) (c : Int) (y : Bool) (i : Int) (A1 A2 : Option Addr) (n1 e1 n2 e2 : Nat) (sig path : List ByteArray) (w : World)
    (hK : K.length = n) (kn : n ≤ 1000) (hS : Strs w w.heap.size A K) (hl1 : sig.length = n1) (hz1 : ∀ s ∈ sig, s.size ≤ 1048576) (hS1 : Strs w w.heap.size A1 sig) (hl2 : path.length = n2) (hz2 : ∀ s ∈ path, s.size ≤ 1048576) (hS2 : Strs w w.heap.size A2 path) (hc2 : n2 ≤ e2)
    (m0 : -9223372036854775808 ≤ m) (m1 : m ≤ 9223372036854775807) (c0 : -9223372036854775808 ≤ c) (c1 : c ≤ 9223372036854775807) (hb : b.size ≤ 100) (R : Bool) (hR : Dg.validB ⟨ch, K, q, nu, de⟩ bill ⟨m, b, c, y, i, sig, path⟩ = R) :
    Calls Tryz.prog 25 #[.agg #[.int .i64 ch, .slice A n e, .int .i64 q, .int .i64 nu, .int .i64 de], .string bill, .agg #[.int .i64 m, .string b, .int .i64 c, .bool y, .int .i64 i, .slice A1 n1 e1, .slice A2 n2 e2]] w fun r w' => r = .returned (.bool R) ∧ Below w.heap.size w w' := by
  have hW := (((Below.refl w.heap.size w).alloc (Nat.le_refl _) (.cells #[.int .i64 ch, .slice A n e, .int .i64 q, .int .i64 nu, .int .i64 de] 24)).alloc (by simp) (.cells #[.int .i64 m, .string b, .int .i64 c, .bool y, .int .i64 i, .slice A1 n1 e1, .slice A2 n2 e2] 34))
  have hr0 : ((w.alloc (.cells #[.int .i64 ch, .slice A n e, .int .i64 q, .int .i64 nu, .int .i64 de] 24)).alloc (.cells #[.int .i64 m, .string b, .int .i64 c, .bool y, .int .i64 i, .slice A1 n1 e1, .slice A2 n2 e2] 34)).heap[w.heap.size]? = some (.cells #[.int .i64 ch, .slice A n e, .int .i64 q, .int .i64 nu, .int .i64 de] 24 (0, 0)) := ((Below.refl (w.alloc (.cells #[.int .i64 ch, .slice A n e, .int .i64 q, .int .i64 nu, .int .i64 de] 24)).heap.size (w.alloc (.cells #[.int .i64 ch, .slice A n e, .int .i64 q, .int .i64 nu, .int .i64 de] 24))).alloc (Nat.le_refl _) (.cells #[.int .i64 m, .string b, .int .i64 c, .bool y, .int .i64 i, .slice A1 n1 e1, .slice A2 n2 e2] 34)).block _ (by simp) |>.trans (heap_alloc_new w _)
  have hr1 : ((w.alloc (.cells #[.int .i64 ch, .slice A n e, .int .i64 q, .int .i64 nu, .int .i64 de] 24)).alloc (.cells #[.int .i64 m, .string b, .int .i64 c, .bool y, .int .i64 i, .slice A1 n1 e1, .slice A2 n2 e2] 34)).heap[w.heap.size + 1]? = some (.cells #[.int .i64 m, .string b, .int .i64 c, .bool y, .int .i64 i, .slice A1 n1 e1, .slice A2 n2 e2] 34 (0, 0)) := by
    have h := heap_alloc_new (w.alloc (.cells #[.int .i64 ch, .slice A n e, .int .i64 q, .int .i64 nu, .int .i64 de] 24)) (.cells #[.int .i64 m, .string b, .int .i64 c, .bool y, .int .i64 i, .slice A1 n1 e1, .slice A2 n2 e2] 34)
    rw [show (w.alloc (.cells #[.int .i64 ch, .slice A n e, .int .i64 q, .int .i64 nu, .int .i64 de] 24)).heap.size = w.heap.size + 1 by simp] at h
    exact h
  have hSS := (hS.below hW).more hW.size
  have hSS1 := (hS1.below hW).more hW.size
  have hSS2 := (hS2.below hW).more hW.size
  unfold Dg.validB at hR
  have HR := hide hR; have HK := hide hK; have HZ1 := hide hz1; have HZ2 := hide hz2
  have HM := hide (And.intro m0 (And.intro m1 (And.intro c0 c1)))
  clear hR hK hz1 hz2 hS hS1 hS2
  go_enter Tryz.func25, Tryz.ntmps25
  go_upto_region 1 with (fail)
  obtain ⟨r0, r1, r2, r3, r4⟩ := cells5 hr0
  obtain ⟨v0, v1, v2, v3, v4, v5, v6⟩ := cells7 hr1
  generalize hWW : (w.alloc (.cells #[.int .i64 ch, .slice A n e, .int .i64 q, .int .i64 nu, .int .i64 de] 24)).alloc (.cells #[.int .i64 m, .string b, .int .i64 c, .bool y, .int .i64 i, .slice A1 n1 e1, .slice A2 n2 e2] 34) = W at *
  generalize hg1 : w.heap.size + 1 = g1 at *
  by_cases q1 : c = ch
  rotate_left
  · have f1 : (c == ch) = false := beq_eq_false_iff_ne.2 q1
    obtain rfl : R = false := by rw [← HR.out]; simp [q1]
    clear HR q1 HM m0 m1 c0 c1
    go_quiet (fail)
    go_wp2
    go_ret
    exact ⟨rfl, below_drewN hW _⟩
  subst q1
  have f1 : (c == c) = true := beq_self_eq_true c
  by_cases q2 : b = bill
  rotate_left
  · have f2 : (b.toList == bill.toList) = false := by rw [str_ne]; exact decide_eq_false q2
    obtain rfl : R = false := by rw [← HR.out]; simp [q2]
    clear HR q2 HM m0 m1 c0 c1
    go_quiet (fail)
    go_wp2
    go_ret
    exact ⟨rfl, below_drewN hW _⟩
  subst q2
  have f2 : (b.toList == b.toList) = true := beq_self_eq_true _
  by_cases q3 : 0 ≤ m
  rotate_left
  · have f3 : decide (0 ≤ m) = false := dec_f q3
    obtain rfl : R = false := by rw [← HR.out]; simp [q3]
    clear HR q3 HM m0 m1 c0 c1
    go_quiet (fail)
    go_wp2
    go_ret
    exact ⟨rfl, below_drewN hW _⟩
  have f3 : decide (0 ≤ m) = true := dec_t q3
  by_cases q4 : m < (n : Int)
  rotate_left
  · have f4 : decide (m < (n : Int)) = false := dec_f q4
    obtain rfl : R = false := by rw [← HR.out, HK.out, dec_f q4]; simp
    clear HR q4 HM m0 m1 c0 c1
    go_quiet (fail)
    go_wp2
    go_ret
    exact ⟨rfl, below_drewN hW _⟩
  have f4 : decide (m < (n : Int)) = true := dec_t q4
  obtain ⟨M, hM⟩ : ∃ M, Dg.msgB m b c y = M := ⟨_, rfl⟩
  have hMz : M.size = 16 := by rw [← hM]; exact Dg.listB_size _
  obtain ⟨mN, hmN⟩ := Int.eq_ofNat_of_zero_le q3
  have hmn : mN < K.length := by rw [HK.out]; omega
  obtain ⟨bK, oK, rfl, hbK, hcK⟩ := hSS.get hmn
  have hgd : K.getD mN ⟨#[]⟩ = K[mN] := by rw [List.getD_eq_getElem?_getD, List.getElem?_eq_getElem hmn]; rfl
  generalize hkk : K[mN] = key at *
  have hver : verifyB key M i sig path = R := by
    rw [← HR.out, HK.out, dec_t rfl, dec_t rfl, dec_t q3, dec_t q4]
    show verifyB key M i sig path = verifyB (K.getD m.toNat ⟨#[]⟩) (Dg.msgB m b c y) i sig path
    rw [hM, hmN, Int.toNat_natCast, hgd]
  have HV := hide hver; have HMM := hide hM
  clear HR hver hM hkk hgd m0 m1 c0 c1
  subst hmN
  have f5 : (mN : Int) < (n : Int) := q4
  have hmx : Tryz.prog.follows .mixedOrders = true := by kernel_rfl
  have hHeld : (fun X : World => X.heap[w.heap.size]? = some (.cells #[.int .i64 c, .slice (some ⟨bK, oK, none⟩) n e, .int .i64 q, .int .i64 nu, .int .i64 de] 24 (0, 0)) ∧ X.heap[g1]? = some (.cells #[.int .i64 (mN : Int), .string b, .int .i64 c, .bool y, .int .i64 i, .slice A1 n1 e1, .slice A2 n2 e2] 34 (0, 0)) ∧ X.cell? ⟨bK, oK + mN, none⟩ = some (.string key)) W.drew := ⟨hr0, hr1, hcK⟩
  replace hW := hW.drew
  replace hSS1 := keepS hSS1 (Below.refl _ _).drew
  replace hSS2 := keepS hSS2 (Below.refl _ _).drew
  clear r0 r1 r2 r3 r4 v0 v1 v2 v3 v4 v5 v6 hr0 hr1 hcK hSS
  refine wp_region_noPanic ?_
  refine wp_region_L (fun X : World => X.heap[w.heap.size]? = some (.cells #[.int .i64 c, .slice (some ⟨bK, oK, none⟩) n e, .int .i64 q, .int .i64 nu, .int .i64 de] 24 (0, 0)) ∧ X.heap[g1]? = some (.cells #[.int .i64 (mN : Int), .string b, .int .i64 c, .bool y, .int .i64 i, .slice A1 n1 e1, .slice A2 n2 e2] 34 (0, 0)) ∧ X.cell? ⟨bK, oK + mN, none⟩ = some (.string key)) 38 hmx ?_
  generalize W.drew = u0 at *
  refine wpAnyL_take (i := 0) (f0 := 50) (v := ?_) rfl (by decide +kernel) (by decide +kernel) (by decide +kernel) (by decide +kernel) (by decide +kernel) (fun _ _ _ h => h) (Or.inl ⟨by rfl, ?_⟩) hHeld ?_
  rotate_left
  · intro wS hS; obtain ⟨hS1, hS2, hS3⟩ := hS; obtain ⟨r0, r1, r2, r3, r4⟩ := cells5 hS1; obtain ⟨v0, v1, v2, v3, v4, v5, v6⟩ := cells7 hS2; go_simp; (try with_reducible rfl)
  simp only [Act.put, List.getElem_toArray, List.getElem_cons_succ, List.getElem_cons_zero, List.setIfInBounds_toArray, List.set_cons_succ, List.set_cons_zero]
  refine wpAnyL_take (i := 1) (f0 := 50) (v := ?_) rfl (by decide +kernel) (by decide +kernel) (by decide +kernel) (by decide +kernel) (by decide +kernel) (fun _ _ _ h => h) (Or.inl ⟨by rfl, ?_⟩) hHeld ?_
  rotate_left
  · intro wS hS; obtain ⟨hS1, hS2, hS3⟩ := hS; obtain ⟨r0, r1, r2, r3, r4⟩ := cells5 hS1; obtain ⟨v0, v1, v2, v3, v4, v5, v6⟩ := cells7 hS2; go_simp; (try with_reducible rfl)
  simp only [Act.put, List.getElem_toArray, List.getElem_cons_succ, List.getElem_cons_zero, List.setIfInBounds_toArray, List.set_cons_succ, List.set_cons_zero]
  refine wpAnyL_take (i := 2) (f0 := 50) (v := ?_) rfl (by decide +kernel) (by decide +kernel) (by decide +kernel) (by decide +kernel) (by decide +kernel) (fun _ _ _ h => h) (Or.inl ⟨by rfl, ?_⟩) hHeld ?_
  rotate_left
  · intro wS hS; obtain ⟨hS1, hS2, hS3⟩ := hS; obtain ⟨r0, r1, r2, r3, r4⟩ := cells5 hS1; obtain ⟨v0, v1, v2, v3, v4, v5, v6⟩ := cells7 hS2; go_simp; (try with_reducible rfl)
  simp only [Act.put, List.getElem_toArray, List.getElem_cons_succ, List.getElem_cons_zero, List.setIfInBounds_toArray, List.set_cons_succ, List.set_cons_zero]
  refine wpAnyL_take (i := 3) (f0 := 50) (v := ?_) rfl (by decide +kernel) (by decide +kernel) (by decide +kernel) (by decide +kernel) (by decide +kernel) (fun _ _ _ h => h) (Or.inl ⟨by rfl, ?_⟩) hHeld ?_
  rotate_left
  · intro wS hS; obtain ⟨hS1, hS2, hS3⟩ := hS; obtain ⟨r0, r1, r2, r3, r4⟩ := cells5 hS1; obtain ⟨v0, v1, v2, v3, v4, v5, v6⟩ := cells7 hS2; go_simp; (try with_reducible rfl)
  simp only [Act.put, List.getElem_toArray, List.getElem_cons_succ, List.getElem_cons_zero, List.setIfInBounds_toArray, List.set_cons_succ, List.set_cons_zero]
  refine wpAnyL_take (i := 4) (f0 := 50) (v := ?_) rfl (by decide +kernel) (by decide +kernel) (by decide +kernel) (by decide +kernel) (by decide +kernel) (fun _ _ _ h => h) (Or.inl ⟨by rfl, ?_⟩) hHeld ?_
  rotate_left
  · intro wS hS; obtain ⟨hS1, hS2, hS3⟩ := hS; obtain ⟨r0, r1, r2, r3, r4⟩ := cells5 hS1; obtain ⟨v0, v1, v2, v3, v4, v5, v6⟩ := cells7 hS2; go_simp; (try with_reducible rfl)
  simp only [Act.put, List.getElem_toArray, List.getElem_cons_succ, List.getElem_cons_zero, List.setIfInBounds_toArray, List.set_cons_succ, List.set_cons_zero]
  refine wpAnyL_take (i := 5) (f0 := 50) (v := ?_) rfl (by decide +kernel) (by decide +kernel) (by decide +kernel) (by decide +kernel) (by decide +kernel) (fun _ _ _ h => h) (Or.inl ⟨by rfl, ?_⟩) hHeld ?_
  rotate_left
  · intro wS hS; obtain ⟨hS1, hS2, hS3⟩ := hS; obtain ⟨r0, r1, r2, r3, r4⟩ := cells5 hS1; obtain ⟨v0, v1, v2, v3, v4, v5, v6⟩ := cells7 hS2; go_simp; (try with_reducible rfl)
  simp only [Act.put, List.getElem_toArray, List.getElem_cons_succ, List.getElem_cons_zero, List.setIfInBounds_toArray, List.set_cons_succ, List.set_cons_zero]
  refine wpAnyL_take (i := 6) (f0 := 50) (v := ?_) rfl (by decide +kernel) (by decide +kernel) (by decide +kernel) (by decide +kernel) (by decide +kernel) (fun _ _ _ h => h) (Or.inl ⟨by rfl, ?_⟩) hHeld ?_
  rotate_left
  · intro wS hS; obtain ⟨hS1, hS2, hS3⟩ := hS; obtain ⟨r0, r1, r2, r3, r4⟩ := cells5 hS1; obtain ⟨v0, v1, v2, v3, v4, v5, v6⟩ := cells7 hS2; go_simp; (try with_reducible rfl)
  simp only [Act.put, List.getElem_toArray, List.getElem_cons_succ, List.getElem_cons_zero, List.setIfInBounds_toArray, List.set_cons_succ, List.set_cons_zero]
  refine wpAnyL_take (i := 7) (f0 := 50) (v := ?_) rfl (by decide +kernel) (by decide +kernel) (by decide +kernel) (by decide +kernel) (by decide +kernel) (fun _ _ _ h => h) (Or.inl ⟨by rfl, ?_⟩) hHeld ?_
  rotate_left
  · intro wS hS; obtain ⟨hS1, hS2, hS3⟩ := hS; obtain ⟨r0, r1, r2, r3, r4⟩ := cells5 hS1; obtain ⟨v0, v1, v2, v3, v4, v5, v6⟩ := cells7 hS2; go_simp; (try with_reducible rfl)
  simp only [Act.put, List.getElem_toArray, List.getElem_cons_succ, List.getElem_cons_zero, List.setIfInBounds_toArray, List.set_cons_succ, List.set_cons_zero]
  refine wpAnyL_take (i := 8) (f0 := 50) (v := ?_) rfl (by decide +kernel) (by decide +kernel) (by decide +kernel) (by decide +kernel) (by decide +kernel) (fun _ _ _ h => h) (Or.inl ⟨by rfl, ?_⟩) hHeld ?_
  rotate_left
  · intro wS hS; obtain ⟨hS1, hS2, hS3⟩ := hS; obtain ⟨r0, r1, r2, r3, r4⟩ := cells5 hS1; obtain ⟨v0, v1, v2, v3, v4, v5, v6⟩ := cells7 hS2; go_simp; (try with_reducible rfl)
  simp only [Act.put, List.getElem_toArray, List.getElem_cons_succ, List.getElem_cons_zero, List.setIfInBounds_toArray, List.set_cons_succ, List.set_cons_zero]
  refine wpAnyL_take (i := 9) (f0 := 50) (v := ?_) rfl (by decide +kernel) (by decide +kernel) (by decide +kernel) (by decide +kernel) (by decide +kernel) (fun _ _ _ h => h) (Or.inl ⟨by rfl, ?_⟩) hHeld ?_
  rotate_left
  · intro wS hS; obtain ⟨hS1, hS2, hS3⟩ := hS; obtain ⟨r0, r1, r2, r3, r4⟩ := cells5 hS1; obtain ⟨v0, v1, v2, v3, v4, v5, v6⟩ := cells7 hS2; go_simp; (try with_reducible rfl)
  simp only [Act.put, List.getElem_toArray, List.getElem_cons_succ, List.getElem_cons_zero, List.setIfInBounds_toArray, List.set_cons_succ, List.set_cons_zero]
  refine wpAnyL_take (i := 10) (f0 := 50) (v := ?_) rfl (by decide +kernel) (by decide +kernel) (by decide +kernel) (by decide +kernel) (by decide +kernel) (fun _ _ _ h => h) (Or.inl ⟨by rfl, ?_⟩) hHeld ?_
  rotate_left
  · intro wS hS; obtain ⟨hS1, hS2, hS3⟩ := hS; obtain ⟨r0, r1, r2, r3, r4⟩ := cells5 hS1; obtain ⟨v0, v1, v2, v3, v4, v5, v6⟩ := cells7 hS2; go_simp; (try with_reducible rfl)
  simp only [Act.put, List.getElem_toArray, List.getElem_cons_succ, List.getElem_cons_zero, List.setIfInBounds_toArray, List.set_cons_succ, List.set_cons_zero]
  refine wpAnyL_take (i := 11) (f0 := 50) (v := ?_) rfl (by decide +kernel) (by decide +kernel) (by decide +kernel) (by decide +kernel) (by decide +kernel) (fun _ _ _ h => h) (Or.inl ⟨by rfl, ?_⟩) hHeld ?_
  rotate_left
  · intro wS hS; obtain ⟨hS1, hS2, hS3⟩ := hS; obtain ⟨r0, r1, r2, r3, r4⟩ := cells5 hS1; obtain ⟨v0, v1, v2, v3, v4, v5, v6⟩ := cells7 hS2; go_simp; (try with_reducible rfl)
  simp only [Act.put, List.getElem_toArray, List.getElem_cons_succ, List.getElem_cons_zero, List.setIfInBounds_toArray, List.set_cons_succ, List.set_cons_zero]
  refine wpAnyL_take (i := 12) (f0 := 50) (v := ?_) rfl (by decide +kernel) (by decide +kernel) (by decide +kernel) (by decide +kernel) (by decide +kernel) (fun _ _ _ h => h) (Or.inl ⟨by rfl, ?_⟩) hHeld ?_
  rotate_left
  · intro wS hS; obtain ⟨hS1, hS2, hS3⟩ := hS; obtain ⟨r0, r1, r2, r3, r4⟩ := cells5 hS1; obtain ⟨v0, v1, v2, v3, v4, v5, v6⟩ := cells7 hS2; go_simp; (try with_reducible rfl)
  simp only [Act.put, List.getElem_toArray, List.getElem_cons_succ, List.getElem_cons_zero, List.setIfInBounds_toArray, List.set_cons_succ, List.set_cons_zero]
  refine wpAnyL_take (i := 13) (f0 := 50) (v := ?_) rfl (by decide +kernel) (by decide +kernel) (by decide +kernel) (by decide +kernel) (by decide +kernel) (fun _ _ _ h => h) (Or.inl ⟨by rfl, ?_⟩) hHeld ?_
  rotate_left
  · intro wS hS; obtain ⟨hS1, hS2, hS3⟩ := hS; obtain ⟨r0, r1, r2, r3, r4⟩ := cells5 hS1; obtain ⟨v0, v1, v2, v3, v4, v5, v6⟩ := cells7 hS2; go_simp; (try with_reducible rfl)
  simp only [Act.put, List.getElem_toArray, List.getElem_cons_succ, List.getElem_cons_zero, List.setIfInBounds_toArray, List.set_cons_succ, List.set_cons_zero]
  refine wpAnyL_take (i := 14) (f0 := 50) (v := ?_) rfl (by decide +kernel) (by decide +kernel) (by decide +kernel) (by decide +kernel) (by decide +kernel) (fun _ _ _ h => h) (Or.inl ⟨by rfl, ?_⟩) hHeld ?_
  rotate_left
  · intro wS hS; obtain ⟨hS1, hS2, hS3⟩ := hS; obtain ⟨r0, r1, r2, r3, r4⟩ := cells5 hS1; obtain ⟨v0, v1, v2, v3, v4, v5, v6⟩ := cells7 hS2; go_simp; (try with_reducible rfl)
  simp only [Act.put, List.getElem_toArray, List.getElem_cons_succ, List.getElem_cons_zero, List.setIfInBounds_toArray, List.set_cons_succ, List.set_cons_zero]
  refine wpAnyL_take (i := 15) (f0 := 50) (v := ?_) rfl (by decide +kernel) (by decide +kernel) (by decide +kernel) (by decide +kernel) (by decide +kernel) (fun _ _ _ h => h) (Or.inl ⟨by rfl, ?_⟩) hHeld ?_
  rotate_left
  · intro wS hS; obtain ⟨hS1, hS2, hS3⟩ := hS; obtain ⟨r0, r1, r2, r3, r4⟩ := cells5 hS1; obtain ⟨v0, v1, v2, v3, v4, v5, v6⟩ := cells7 hS2; go_simp; (try with_reducible rfl)
  simp only [Act.put, List.getElem_toArray, List.getElem_cons_succ, List.getElem_cons_zero, List.setIfInBounds_toArray, List.set_cons_succ, List.set_cons_zero]
  refine wpAnyL_take (i := 16) (f0 := 50) (v := ?_) rfl (by decide +kernel) (by decide +kernel) (by decide +kernel) (by decide +kernel) (by decide +kernel) (fun _ _ _ h => h) (Or.inl ⟨by rfl, ?_⟩) hHeld ?_
  rotate_left
  · intro wS hS; obtain ⟨hS1, hS2, hS3⟩ := hS; obtain ⟨r0, r1, r2, r3, r4⟩ := cells5 hS1; obtain ⟨v0, v1, v2, v3, v4, v5, v6⟩ := cells7 hS2; go_simp; (try with_reducible rfl)
  simp only [Act.put, List.getElem_toArray, List.getElem_cons_succ, List.getElem_cons_zero, List.setIfInBounds_toArray, List.set_cons_succ, List.set_cons_zero]
  refine wpAnyL_take (i := 17) (f0 := 50) (v := ?_) rfl (by decide +kernel) (by decide +kernel) (by decide +kernel) (by decide +kernel) (by decide +kernel) (fun _ _ _ h => h) (Or.inl ⟨by rfl, ?_⟩) hHeld ?_
  rotate_left
  · intro wS hS; obtain ⟨hS1, hS2, hS3⟩ := hS; obtain ⟨r0, r1, r2, r3, r4⟩ := cells5 hS1; obtain ⟨v0, v1, v2, v3, v4, v5, v6⟩ := cells7 hS2; go_simp; (try with_reducible rfl)
  simp only [Act.put, List.getElem_toArray, List.getElem_cons_succ, List.getElem_cons_zero, List.setIfInBounds_toArray, List.set_cons_succ, List.set_cons_zero]
  refine wpAnyL_take (i := 18) (f0 := 50) (v := ?_) rfl (by decide +kernel) (by decide +kernel) (by decide +kernel) (by decide +kernel) (by decide +kernel) (fun _ _ _ h => h) (Or.inl ⟨by rfl, ?_⟩) hHeld ?_
  rotate_left
  · intro wS hS; obtain ⟨hS1, hS2, hS3⟩ := hS; obtain ⟨r0, r1, r2, r3, r4⟩ := cells5 hS1; obtain ⟨v0, v1, v2, v3, v4, v5, v6⟩ := cells7 hS2; go_simp; (try with_reducible rfl)
  simp only [Act.put, List.getElem_toArray, List.getElem_cons_succ, List.getElem_cons_zero, List.setIfInBounds_toArray, List.set_cons_succ, List.set_cons_zero]
  refine wpAnyL_take (i := 19) (f0 := 50) (v := ?_) rfl (by decide +kernel) (by decide +kernel) (by decide +kernel) (by decide +kernel) (by decide +kernel) (fun _ _ _ h => h) (Or.inl ⟨by rfl, ?_⟩) hHeld ?_
  rotate_left
  · intro wS hS; obtain ⟨hS1, hS2, hS3⟩ := hS; obtain ⟨r0, r1, r2, r3, r4⟩ := cells5 hS1; obtain ⟨v0, v1, v2, v3, v4, v5, v6⟩ := cells7 hS2; go_simp; (try with_reducible rfl)
  simp only [Act.put, List.getElem_toArray, List.getElem_cons_succ, List.getElem_cons_zero, List.setIfInBounds_toArray, List.set_cons_succ, List.set_cons_zero]
  refine wpAnyL_take (i := 20) (f0 := 50) (v := ?_) rfl (by decide +kernel) (by decide +kernel) (by decide +kernel) (by decide +kernel) (by decide +kernel) (fun _ _ _ h => h) (Or.inl ⟨by rfl, ?_⟩) hHeld ?_
  rotate_left
  · intro wS hS; obtain ⟨hS1, hS2, hS3⟩ := hS; obtain ⟨r0, r1, r2, r3, r4⟩ := cells5 hS1; obtain ⟨v0, v1, v2, v3, v4, v5, v6⟩ := cells7 hS2; go_simp; (try with_reducible rfl)
  simp only [Act.put, List.getElem_toArray, List.getElem_cons_succ, List.getElem_cons_zero, List.setIfInBounds_toArray, List.set_cons_succ, List.set_cons_zero]
  refine wpAnyL_take (i := 21) (f0 := 50) (v := ?_) rfl (by decide +kernel) (by decide +kernel) (by decide +kernel) (by decide +kernel) (by decide +kernel) (fun _ _ _ h => h) (Or.inl ⟨by rfl, ?_⟩) hHeld ?_
  rotate_left
  · intro wS hS; obtain ⟨hS1, hS2, hS3⟩ := hS; obtain ⟨r0, r1, r2, r3, r4⟩ := cells5 hS1; obtain ⟨v0, v1, v2, v3, v4, v5, v6⟩ := cells7 hS2; go_simp; (try with_reducible rfl)
  simp only [Act.put, List.getElem_toArray, List.getElem_cons_succ, List.getElem_cons_zero, List.setIfInBounds_toArray, List.set_cons_succ, List.set_cons_zero]
  refine wpAnyL_take (i := 22) (f0 := 50) (v := ?_) rfl (by decide +kernel) (by decide +kernel) (by decide +kernel) (by decide +kernel) (by decide +kernel) (fun _ _ _ h => h) (Or.inl ⟨by rfl, ?_⟩) hHeld ?_
  rotate_left
  · intro wS hS; obtain ⟨hS1, hS2, hS3⟩ := hS; obtain ⟨r0, r1, r2, r3, r4⟩ := cells5 hS1; obtain ⟨v0, v1, v2, v3, v4, v5, v6⟩ := cells7 hS2; go_simp; (try with_reducible rfl)
  simp only [Act.put, List.getElem_toArray, List.getElem_cons_succ, List.getElem_cons_zero, List.setIfInBounds_toArray, List.set_cons_succ, List.set_cons_zero]
  refine wpAnyL_take (i := 23) (f0 := 50) (v := ?_) rfl (by decide +kernel) (by decide +kernel) (by decide +kernel) (by decide +kernel) (by decide +kernel) (fun _ _ _ h => h) (Or.inl ⟨by rfl, ?_⟩) hHeld ?_
  rotate_left
  · intro wS hS; obtain ⟨hS1, hS2, hS3⟩ := hS; obtain ⟨r0, r1, r2, r3, r4⟩ := cells5 hS1; obtain ⟨v0, v1, v2, v3, v4, v5, v6⟩ := cells7 hS2; go_simp; (try with_reducible rfl)
  simp only [Act.put, List.getElem_toArray, List.getElem_cons_succ, List.getElem_cons_zero, List.setIfInBounds_toArray, List.set_cons_succ, List.set_cons_zero]
  refine wpAnyL_take (i := 24) (f0 := 50) (v := ?_) rfl (by decide +kernel) (by decide +kernel) (by decide +kernel) (by decide +kernel) (by decide +kernel) (fun _ _ _ h => h) (Or.inl ⟨by rfl, ?_⟩) hHeld ?_
  rotate_left
  · intro wS hS; obtain ⟨hS1, hS2, hS3⟩ := hS; obtain ⟨r0, r1, r2, r3, r4⟩ := cells5 hS1; obtain ⟨v0, v1, v2, v3, v4, v5, v6⟩ := cells7 hS2; go_simp; (try with_reducible rfl)
  simp only [Act.put, List.getElem_toArray, List.getElem_cons_succ, List.getElem_cons_zero, List.setIfInBounds_toArray, List.set_cons_succ, List.set_cons_zero]
  refine wpAnyL_take (i := 25) (f0 := 50) (v := ?_) rfl (by decide +kernel) (by decide +kernel) (by decide +kernel) (by decide +kernel) (by decide +kernel) (fun _ _ _ h => h) (Or.inl ⟨by rfl, ?_⟩) hHeld ?_
  rotate_left
  · intro wS hS; obtain ⟨hS1, hS2, hS3⟩ := hS; obtain ⟨r0, r1, r2, r3, r4⟩ := cells5 hS1; obtain ⟨v0, v1, v2, v3, v4, v5, v6⟩ := cells7 hS2; go_simp; (try with_reducible rfl)
  simp only [Act.put, List.getElem_toArray, List.getElem_cons_succ, List.getElem_cons_zero, List.setIfInBounds_toArray, List.set_cons_succ, List.set_cons_zero]
  refine wpAnyL_take (i := 26) (f0 := 50) (v := ?_) rfl (by decide +kernel) (by decide +kernel) (by decide +kernel) (by decide +kernel) (by decide +kernel) (fun _ _ _ h => h) (Or.inl ⟨by rfl, ?_⟩) hHeld ?_
  rotate_left
  · intro wS hS; obtain ⟨hS1, hS2, hS3⟩ := hS; obtain ⟨r0, r1, r2, r3, r4⟩ := cells5 hS1; obtain ⟨v0, v1, v2, v3, v4, v5, v6⟩ := cells7 hS2; go_simp; (try with_reducible rfl)
  simp only [Act.put, List.getElem_toArray, List.getElem_cons_succ, List.getElem_cons_zero, List.setIfInBounds_toArray, List.set_cons_succ, List.set_cons_zero]
  refine wpAnyL_take (i := 27) (f0 := 50) (v := ?_) rfl (by decide +kernel) (by decide +kernel) (by decide +kernel) (by decide +kernel) (by decide +kernel) (fun _ _ _ h => h) (Or.inl ⟨by rfl, ?_⟩) hHeld ?_
  rotate_left
  · intro wS hS; obtain ⟨hS1, hS2, hS3⟩ := hS; obtain ⟨r0, r1, r2, r3, r4⟩ := cells5 hS1; obtain ⟨v0, v1, v2, v3, v4, v5, v6⟩ := cells7 hS2; go_simp; (try with_reducible rfl)
  simp only [Act.put, List.getElem_toArray, List.getElem_cons_succ, List.getElem_cons_zero, List.setIfInBounds_toArray, List.set_cons_succ, List.set_cons_zero]
  refine wpAnyL_take (i := 28) (f0 := 50) (v := ?_) rfl (by decide +kernel) (by decide +kernel) (by decide +kernel) (by decide +kernel) (by decide +kernel) (fun _ _ _ h => h) (Or.inl ⟨by rfl, ?_⟩) hHeld ?_
  rotate_left
  · intro wS hS; obtain ⟨hS1, hS2, hS3⟩ := hS; obtain ⟨r0, r1, r2, r3, r4⟩ := cells5 hS1; obtain ⟨v0, v1, v2, v3, v4, v5, v6⟩ := cells7 hS2; go_simp; (try with_reducible rfl)
  simp only [Act.put, List.getElem_toArray, List.getElem_cons_succ, List.getElem_cons_zero, List.setIfInBounds_toArray, List.set_cons_succ, List.set_cons_zero]
  refine wpAnyL_take (i := 29) (f0 := 50) (v := ?_) rfl (by decide +kernel) (by decide +kernel) (by decide +kernel) (by decide +kernel) (by decide +kernel) (fun _ _ _ h => h) (Or.inl ⟨by rfl, ?_⟩) hHeld ?_
  rotate_left
  · intro wS hS; obtain ⟨hS1, hS2, hS3⟩ := hS; obtain ⟨r0, r1, r2, r3, r4⟩ := cells5 hS1; obtain ⟨v0, v1, v2, v3, v4, v5, v6⟩ := cells7 hS2; go_simp; (try with_reducible rfl)
  simp only [Act.put, List.getElem_toArray, List.getElem_cons_succ, List.getElem_cons_zero, List.setIfInBounds_toArray, List.set_cons_succ, List.set_cons_zero]
  refine wpAnyL_take (i := 30) (f0 := 50) (v := ?_) rfl (by decide +kernel) (by decide +kernel) (by decide +kernel) (by decide +kernel) (by decide +kernel) (fun _ _ _ h => h) (Or.inl ⟨by rfl, ?_⟩) hHeld ?_
  rotate_left
  · intro wS hS; obtain ⟨hS1, hS2, hS3⟩ := hS; obtain ⟨r0, r1, r2, r3, r4⟩ := cells5 hS1; obtain ⟨v0, v1, v2, v3, v4, v5, v6⟩ := cells7 hS2; go_simp; (try with_reducible rfl)
  simp only [Act.put, List.getElem_toArray, List.getElem_cons_succ, List.getElem_cons_zero, List.setIfInBounds_toArray, List.set_cons_succ, List.set_cons_zero]
  refine wpAnyL_take (i := 31) (f0 := 50) (v := ?_) rfl (by decide +kernel) (by decide +kernel) (by decide +kernel) (by decide +kernel) (by decide +kernel) (fun _ _ _ h => h) (Or.inl ⟨by rfl, ?_⟩) hHeld ?_
  rotate_left
  · intro wS hS; obtain ⟨hS1, hS2, hS3⟩ := hS; obtain ⟨r0, r1, r2, r3, r4⟩ := cells5 hS1; obtain ⟨v0, v1, v2, v3, v4, v5, v6⟩ := cells7 hS2; go_simp; (try with_reducible rfl)
  simp only [Act.put, List.getElem_toArray, List.getElem_cons_succ, List.getElem_cons_zero, List.setIfInBounds_toArray, List.set_cons_succ, List.set_cons_zero]
  refine wpAnyL_take (i := 33) (f0 := 50) (v := ?_) rfl (by decide +kernel) (by decide +kernel) (by decide +kernel) (by decide +kernel) (by decide +kernel) (fun _ _ _ h => h) (Or.inl ⟨by rfl, ?_⟩) hHeld ?_
  rotate_left
  · intro wS hS; obtain ⟨hS1, hS2, hS3⟩ := hS; obtain ⟨r0, r1, r2, r3, r4⟩ := cells5 hS1; obtain ⟨v0, v1, v2, v3, v4, v5, v6⟩ := cells7 hS2; go_simp; (try with_reducible rfl)
  simp only [Act.put, List.getElem_toArray, List.getElem_cons_succ, List.getElem_cons_zero, List.setIfInBounds_toArray, List.set_cons_succ, List.set_cons_zero]
  refine wpAnyL_take (i := 34) (f0 := 50) (v := ?_) rfl (by decide +kernel) (by decide +kernel) (by decide +kernel) (by decide +kernel) (by decide +kernel) (fun _ _ _ h => h) (Or.inl ⟨by rfl, ?_⟩) hHeld ?_
  rotate_left
  · intro wS hS; obtain ⟨hS1, hS2, hS3⟩ := hS; obtain ⟨r0, r1, r2, r3, r4⟩ := cells5 hS1; obtain ⟨v0, v1, v2, v3, v4, v5, v6⟩ := cells7 hS2; go_simp; (try with_reducible rfl)
  simp only [Act.put, List.getElem_toArray, List.getElem_cons_succ, List.getElem_cons_zero, List.setIfInBounds_toArray, List.set_cons_succ, List.set_cons_zero]
  refine wpAnyL_one (i := 32) (by decide +kernel) (by rfl) (fun K0 hK => ?_)
  rw [if_pos (by rfl)]
  go_simp
  refine (rvmsg_of (mN : Int) b c y i A1 A2 n1 e1 n2 e2 HM.out.1 HM.out.2.1 HM.out.2.2.1 HM.out.2.2.2 hb M HMM.out _).mono ?_
  rintro r u1 ⟨rfl, hb1⟩
  have hX : (fun X : World => X.heap[w.heap.size]? = some (.cells #[.int .i64 c, .slice (some ⟨bK, oK, none⟩) n e, .int .i64 q, .int .i64 nu, .int .i64 de] 24 (0, 0)) ∧ X.heap[g1]? = some (.cells #[.int .i64 (mN : Int), .string b, .int .i64 c, .bool y, .int .i64 i, .slice A1 n1 e1, .slice A2 n2 e2] 34 (0, 0)) ∧ X.cell? ⟨bK, oK + mN, none⟩ = some (.string key)) u1 := ⟨(hb1.block _ (Array.getElem?_eq_some_iff.1 hHeld.1).1).trans hHeld.1, (hb1.block _ (Array.getElem?_eq_some_iff.1 hHeld.2.1).1).trans hHeld.2.1, (hb1.cell (block_lt_of_cell hHeld.2.2)).trans hHeld.2.2⟩
  clear hHeld
  have hHeld := hX; clear hX
  replace hSS1 := keepS hSS1 hb1
  replace hSS2 := keepS hSS2 hb1
  replace hW := hW.trans (hb1.mono hW.size)
  refine hK.out _ _ (Or.inr hHeld) ?_
  clear hK K0
  try simp only [Act.put, List.getElem_toArray, List.getElem_cons_succ, List.getElem_cons_zero, List.setIfInBounds_toArray, List.set_cons_succ, List.set_cons_zero]
  refine wpAnyL_one (i := 35) (by decide +kernel) (by rfl) (fun K0 hK => ?_)
  rw [if_pos (by rfl)]
  go_simp
  refine (rverify_of key M i A1 A2 n1 n2 e1 e2 sig path _ (by rw [hMz]; decide) hl1 HZ1.out hSS1 hl2 HZ2.out hSS2 hc2 R HV.out).mono ?_
  rintro r u2 ⟨rfl, hb2⟩
  have hX : (fun X : World => X.heap[w.heap.size]? = some (.cells #[.int .i64 c, .slice (some ⟨bK, oK, none⟩) n e, .int .i64 q, .int .i64 nu, .int .i64 de] 24 (0, 0)) ∧ X.heap[g1]? = some (.cells #[.int .i64 (mN : Int), .string b, .int .i64 c, .bool y, .int .i64 i, .slice A1 n1 e1, .slice A2 n2 e2] 34 (0, 0)) ∧ X.cell? ⟨bK, oK + mN, none⟩ = some (.string key)) u2 := ⟨(hb2.block _ (Array.getElem?_eq_some_iff.1 hHeld.1).1).trans hHeld.1, (hb2.block _ (Array.getElem?_eq_some_iff.1 hHeld.2.1).1).trans hHeld.2.1, (hb2.cell (block_lt_of_cell hHeld.2.2)).trans hHeld.2.2⟩
  clear hHeld
  have hHeld := hX; clear hX
  replace hW := hW.trans (hb2.mono hW.size)
  refine hK.out _ _ (Or.inr hHeld) ?_
  clear hK K0
  try simp only [Act.put, List.getElem_toArray, List.getElem_cons_succ, List.getElem_cons_zero, List.setIfInBounds_toArray, List.set_cons_succ, List.set_cons_zero]
  refine wpAnyL_take (i := 36) (f0 := 50) (v := ?_) rfl (by decide +kernel) (by decide +kernel) (by decide +kernel) (by decide +kernel) (by decide +kernel) (fun _ _ _ h => h) (Or.inl ⟨by rfl, ?_⟩) hHeld ?_
  rotate_left
  · intro wS hS; obtain ⟨hS1, hS2, hS3⟩ := hS; obtain ⟨r0, r1, r2, r3, r4⟩ := cells5 hS1; obtain ⟨v0, v1, v2, v3, v4, v5, v6⟩ := cells7 hS2; go_simp; (try with_reducible rfl)
  simp only [Act.put, List.getElem_toArray, List.getElem_cons_succ, List.getElem_cons_zero, List.setIfInBounds_toArray, List.set_cons_succ, List.set_cons_zero]
  refine wpAnyL_take (i := 37) (f0 := 50) (v := ?_) rfl (by decide +kernel) (by decide +kernel) (by decide +kernel) (by decide +kernel) (by decide +kernel) (fun _ _ _ h => h) (Or.inl ⟨by rfl, ?_⟩) hHeld ?_
  rotate_left
  · intro wS hS; obtain ⟨hS1, hS2, hS3⟩ := hS; obtain ⟨r0, r1, r2, r3, r4⟩ := cells5 hS1; obtain ⟨v0, v1, v2, v3, v4, v5, v6⟩ := cells7 hS2; go_simp; (try with_reducible rfl)
  simp only [Act.put, List.getElem_toArray, List.getElem_cons_succ, List.getElem_cons_zero, List.setIfInBounds_toArray, List.set_cons_succ, List.set_cons_zero]
  refine wpAnyL_done (by decide +kernel) ?_ _
  refine NoPanic.normal ?_
  go_wp2
  go_ret
  exact ⟨rfl, hW⟩
end Go.Proofs.YtgncahnkkpjdpaaGreatDoor
/- Slices of votes of the call's own. No conditions but those that each theorem states. -/
namespace Go.Proofs.YtgncahnkkpjdpaaGreatDoor
open Go Go.RowKit Go.Sort Go.Maps
theorem voteInfo : (Tryz.prog.info? 34).map (fun i => (i.zero, i.size, i.bytes)) = some (some (.agg #[.int .i64 0, .string ⟨#[]⟩, .int .i64 0, .bool false, .int .i64 0, .slice none 0 0, .slice none 0 0]), 7, 96) := by kernel_rfl
/-- Votes of the call's own, from block B on. -/
def OwnC (w : World) (B : Nat) (v : Value) (cs : List VtC) : Prop := w.ownsRow B 34 7 v cs.length (cs.flatMap VtC.cells)
theorem cells_len (cs : List VtC) : (cs.flatMap VtC.cells).length = cs.length * 7 := by
  induction cs with
  | nil => rfl
  | cons c cs ih => rw [List.flatMap_cons, List.length_append, ih, List.length_cons]; show 7 + cs.length * 7 = _; omega
theorem cells_one (cs : List VtC) : ∀ u ∈ cs.flatMap VtC.cells, u.oneCell' = true := fun u hu => by
  obtain ⟨c, _, hc⟩ := List.mem_flatMap.1 hu
  simp only [VtC.cells, List.mem_cons, List.not_mem_nil, or_false] at hc
  rcases hc with rfl | rfl | rfl | rfl | rfl | rfl | rfl <;> rfl
theorem OwnC.nil (w : World) (B : Nat) : OwnC w B (.slice none 0 0) [] := World.ownsRow_nil w B _ 7
theorem OwnC.below {w w' : World} {B : Nat} {v : Value} {cs : List VtC} (h : OwnC w B v cs) (hb : Below w.heap.size w w') : OwnC w' B v cs := own_below h hb
theorem OwnC.vts {w : World} {B : Nat} {v : Value} {cs : List VtC} (h : OwnC w B v cs) (hin : ∀ c ∈ cs, VtIn w w.heap.size c.v c.A1 c.A2 c.e1 c.e2) : ∃ A c, v = .slice A cs.length c ∧ Vts w w.heap.size A (cs.map VtC.v) ∧ cs.length ≤ c := by
  rcases h.2 with ⟨rfl, h0⟩ | ⟨g, cap, cur, rfl, hB, hg, hc, _, hsz, hx⟩
  · obtain rfl := List.length_eq_zero_iff.1 h0
    exact ⟨none, 0, rfl, ⟨fun h => by simp at h⟩, Nat.le_refl _⟩
  · refine ⟨_, cap, rfl, ⟨fun _ => ⟨g, 0, rfl, lt_of_block hg, fun j v hj => ?_⟩⟩, hc⟩
    rw [List.getElem?_map] at hj
    cases hcj : cs[j]? with
    | none => rw [hcj] at hj; cases hj
    | some c =>
      rw [hcj] at hj
      obtain rfl : c.v = v := by simpa using hj
      refine ⟨c.A1, c.A2, c.e1, c.e2, hin c (List.mem_of_getElem? hcj), fun i u hu => ?_⟩
      have hi : i < 7 := (Array.getElem?_eq_some_iff.1 hu).1
      have hjl := (List.getElem?_eq_some_iff.1 hcj).1
      rw [Nat.zero_add, cell_of_row _ _ _ _ _ (0, 0) hg, ← Array.getElem?_toList]
      have h1 : (cur.toList.take (cs.length * 7))[j * 7 + i]? = some u := by
        rw [hx, flat_get cs j i c hcj hi]
        rw [← Array.getElem?_toList] at hu
        exact hu
      rw [List.getElem?_take] at h1
      split at h1
      · exact h1
      · exact absurd h1 (by simp)
/-- An append of votes. -/
theorem step_ac {w : World} {ops : Array Oper} {rest : List Oper} {o : Oper} {a : Act} {Q : Exit → Act → World → Prop} (hgd : Region.wanted o (yielded ops a.tmps) = true) (sl x : Operand)
    (ho : o.op = .call { callee := .builtin .append, args := #[sl, x], argTypes := #[25, 25] })
    (B : Nat) (v : Value) (cs ns : List VtC) (hs : a.eval sl = v) (hO : OwnC w B v cs) (ad : Addr) (n cap : Nat) (hx : a.eval x = .slice (some ad) n cap) (hn : ns.length = n) (hsrc : ∀ (j : Nat) u, (ns.flatMap VtC.cells)[j]? = some u → w.cell? (ad.add j) = some u)
    (hlen : cs.length + n ≤ 1099511627776) (hB : B ≤ w.heap.size)
    (h : ∀ v' w', OwnC w' B v' (cs ++ ns) → Below B w w' → wpList Tryz.prog ops Q rest (a.put o.dst v') w') : wpList Tryz.prog ops Q (o :: rest) a w := by
  subst hn
  obtain ⟨i, h1, h2, h3, h4⟩ := info_parts voteInfo
  obtain ⟨v', w', hr, h5, h6, _, _⟩ := run_append_own_at (P := Tryz.prog) w B 25 o.type 34 i _ 7 96 Tryz.underlying25 h1 h2 h3 h4 rfl (by omega) v cs.length _ hO ad ns.length cap _ (cells_len ns) hsrc (cells_one ns) (by unfold maxLen; omega) (by omega) hB
  refine wpList_wanted hgd fun K hK => ?_
  unfold Oper.wp execOp
  simp only [ho, resolve, invoke, builtin, Sem.run_bind, Sem.run_pure, Result.andThen_ok, List.map_toArray, List.map_cons, List.map_nil, hs, hx, hr]
  refine hK _ _ (h v' w' ?_ ((Below.refl B w).grown h6 hB fun k hk => (World.ownsRow.lt hO k hk).1))
  unfold OwnC
  rw [List.length_append, List.flatMap_append]
  exact h5
end Go.Proofs.YtgncahnkkpjdpaaGreatDoor
/- Appends of whole slices of votes. No conditions but those that each theorem states. -/
namespace Go.Proofs.YtgncahnkkpjdpaaGreatDoor
open Go Go.RowKit Go.Sort Go.Maps
/-- Cells of votes in a row, or none. -/
def SrcC (w : World) (A : Option Addr) (ns : List VtC) : Prop := ns = [] ∨ ∃ b off, A = some ⟨b, off, none⟩ ∧ ∀ (j : Nat) u, (ns.flatMap VtC.cells)[j]? = some u → w.cell? ⟨b, off + j, none⟩ = some u
theorem SrcC.keep {w w' : World} {A : Option Addr} {ns : List VtC} (h : SrcC w A ns) (hb : Below w.heap.size w w') : SrcC w' A ns := by
  rcases h with h | ⟨b, off, e, h⟩
  · exact Or.inl h
  · refine Or.inr ⟨b, off, e, fun j u hu => ?_⟩
    have h1 := h j u hu
    exact (hb.cell (block_lt_of_cell h1)).trans h1
theorem SrcC.grown {w w' : World} {g : Nat} {ns : List VtC} {row : Option Nat} (h : SrcC w (some ⟨g, 0, none⟩) ns) (hg : w.grownBy w' row) (hne : row ≠ some g) : SrcC w' (some ⟨g, 0, none⟩) ns := by
  rcases h with h | ⟨b, off, e, h⟩
  · exact Or.inl h
  · refine Or.inr ⟨b, off, e, fun j u hu => ?_⟩
    have h1 := h j u hu
    injection e with e
    injection e with e1 e2 _
    subst e1 e2
    have h2 := block_lt_of_cell h1
    have h3 : w'.heap[g]? = w.heap[g]? := hg.block g h2 (fun e => hne e.symm)
    rw [← h1]
    exact World.cell?_of_block (w := w) (a := ⟨g, 0 + j, none⟩) h3
theorem SrcC.lit (w : World) (c : VtC) (cs : Array Value) (T : TypeId) (h : cs.toList = c.cells) : SrcC (w.alloc (.cells cs T)) (some ⟨w.heap.size, 0, none⟩) [c] :=
  Or.inr ⟨_, _, rfl, fun j u hu => by
    rw [cell_of_row _ _ _ _ _ (0, 0) (heap_alloc_new w _), Nat.zero_add, ← Array.getElem?_toList, h]
    simpa using hu⟩
/-- The votes of a slice, as they lie. -/
theorem Vts.cs {w : World} {B : Nat} {A : Option Addr} {l : List Dg.Vt} (h : Vts w B A l) : ∃ cs : List VtC, cs.map VtC.v = l ∧ (∀ c ∈ cs, VtIn w B c.v c.A1 c.A2 c.e1 c.e2) ∧ SrcC w A cs := by
  rcases Nat.eq_zero_or_pos l.length with h0 | h0
  · obtain rfl := List.length_eq_zero_iff.1 h0
    exact ⟨[], rfl, by simp, Or.inl rfl⟩
  · obtain ⟨b, off, rfl, hb, hc⟩ := h.at_ h0
    have h1 : ∀ j : Nat, ∃ c : VtC, ∀ v, l[j]? = some v → c.v = v ∧ VtIn w B c.v c.A1 c.A2 c.e1 c.e2 ∧ ∀ (i : Nat) (u : Value), c.cells[i]? = some u → w.cell? ⟨b, off + j * 7 + i, none⟩ = some u := fun j => by
      cases hv : l[j]? with
      | none => exact ⟨⟨⟨0, ⟨#[]⟩, 0, false, 0, [], []⟩, none, none, 0, 0⟩, fun v e => by cases e⟩
      | some v =>
        obtain ⟨A1, A2, e1, e2, hin, hcc⟩ := hc j v hv
        refine ⟨⟨v, A1, A2, e1, e2⟩, fun v' e => ?_⟩
        cases e
        refine ⟨rfl, hin, fun i u hu => hcc i u ?_⟩
        rw [← Array.getElem?_toList]
        exact hu
    obtain ⟨f, hf⟩ := Classical.axiomOfChoice h1
    have hcs : ((List.range l.length).map f).map VtC.v = l := by
      refine List.ext_getElem? fun j => ?_
      rw [List.getElem?_map, List.getElem?_map]
      rcases Nat.lt_or_ge j l.length with hj | hj
      · rw [List.getElem?_range hj, List.getElem?_eq_getElem hj]
        exact congrArg some (hf j _ (List.getElem?_eq_getElem hj)).1
      · rw [List.getElem?_eq_none (by rw [List.length_range]; exact hj), List.getElem?_eq_none hj]; rfl
    refine ⟨(List.range l.length).map f, hcs, fun c hc2 => ?_, Or.inr ⟨b, off, rfl, fun j u hu => ?_⟩⟩
    · obtain ⟨j, hj, rfl⟩ := List.mem_map.1 hc2
      exact (hf j _ (List.getElem?_eq_getElem (List.mem_range.1 hj))).2.1
    · have hjl : j < l.length * 7 := by
        have := (List.getElem?_eq_some_iff.1 hu).1
        rw [cells_len, List.length_map, List.length_range] at this
        exact this
      have hd : j / 7 < l.length := by omega
      have hm : j % 7 < 7 := Nat.mod_lt _ (by omega)
      have hj : j = j / 7 * 7 + j % 7 := by omega
      have hcj : ((List.range l.length).map f)[j / 7]? = some (f (j / 7)) := by rw [List.getElem?_map, List.getElem?_range hd]; rfl
      rw [hj, flat_get _ _ _ _ hcj hm] at hu
      have := (hf (j / 7) _ (List.getElem?_eq_getElem hd)).2.2 (j % 7) u hu
      rw [hj, show off + (j / 7 * 7 + j % 7) = off + j / 7 * 7 + j % 7 by omega]
      exact this
/-- An empty literal of votes. -/
theorem OwnC.emptyLit (w : World) (B : Nat) (hB : B ≤ w.heap.size) : OwnC (w.alloc (.cells #[] 34)) B (.slice (some ⟨w.heap.size, 0, none⟩) 0 0) [] :=
  ⟨rfl, Or.inr ⟨_, 0, #[], rfl, hB, heap_alloc_new w _, Nat.le_refl _, Nat.zero_le _, rfl, rfl⟩⟩
/-- An append of a slice of votes. -/
theorem wp_ac {w : World} {o : Oper} {a : Act} {K : Act → World → Prop} {Q : Exit → Act → World → Prop} (sl x : Operand)
    (ho : o.op = .call { callee := .builtin .append, args := #[sl, x], argTypes := #[25, 25] })
    (B : Nat) (v : Value) (cs ns : List VtC) (hs : a.eval sl = v) (hO : OwnC w B v cs) (A : Option Addr) (n cap : Nat) (hx : a.eval x = .slice A n cap) (hn : ns.length = n) (hsrc : SrcC w A ns)
    (hlen : (cs.length + n) * 96 ≤ 140737488355328) (hB : B ≤ w.heap.size)
    (h : ∀ v' w', OwnC w' B v' (cs ++ ns) → Below B w w' → w.grownBy w' v.ownBlock → K (a.put o.dst v') w') : o.wp Tryz.prog a w K Q := by
  subst hn
  obtain ⟨i, h1, h2, h3, h4⟩ := info_parts voteInfo
  have hrun0 : ∀ c, (Builtin.append_ #[25, 25] o.type #[v, .slice none 0 c]).run Tryz.prog w = .ok v w := fun c => run_append_none (P := Tryz.prog) B 25 o.type 34 i 7 Tryz.underlying25 h1 v cs.length _ hO c
  have key : ∃ v' w', (Builtin.append_ #[25, 25] o.type #[v, .slice A ns.length cap]).run Tryz.prog w = .ok v' w' ∧ OwnC w' B v' (cs ++ ns) ∧ Below B w w' ∧ w.grownBy w' v.ownBlock := by
    cases A with
    | none =>
      have h0 : ns = [] := by
        rcases hsrc with h0 | ⟨_, _, h0, _⟩
        · exact h0
        · cases h0
      subst h0
      exact ⟨v, w, hrun0 cap, by rw [List.append_nil]; exact hO, Below.refl _ _, ⟨rfl, rfl, rfl, Nat.le_refl _, fun _ _ _ => rfl⟩⟩
    | some ad =>
      obtain ⟨v', w', hr, h5, h6, _, _⟩ := run_append_own_at (P := Tryz.prog) w B 25 o.type 34 i _ 7 96 Tryz.underlying25 h1 h2 h3 h4 rfl (by omega) v cs.length _ hO ad ns.length cap _ (cells_len ns) (fun j u hj => by
        rcases hsrc with h0 | ⟨b, off, h0, hc⟩
        · rw [h0] at hj; cases hj
        · cases h0
          rw [addr_off]
          exact hc j u hj) (cells_one ns) (by unfold maxLen; omega) (by omega) hB
      refine ⟨v', w', hr, ?_, (Below.refl B w).grown h6 hB fun k hk => (World.ownsRow.lt hO k hk).1, h6⟩
      unfold OwnC
      rw [List.length_append, List.flatMap_append]
      exact h5
  obtain ⟨v', w', hrun, h5, h6, h7⟩ := key
  unfold Oper.wp execOp
  simp only [ho, resolve, invoke, builtin, Sem.run_bind, Sem.run_pure, Result.andThen_ok, List.map_toArray, List.map_cons, List.map_nil, hs, hx, hrun]
  exact h v' w' h5 h6 h7
namespace Dg
/-- One vote more that counts: carried stays so with a yes, not carried with a no. -/
theorem car_more (r : Rl) (cc : Int) (bill : ByteArray) (l : List Vt) (v : Vt) (h8 : l.length + 1 ≤ 8) (hok : okP r bill (l ++ [v]) l.length = true) (E1 E2 : Int) (h1 : carE r cc bill l = E1) (h2 : carE r cc bill (l ++ [v]) = E2) : (E1 = 0 → v.yes = true → E2 = 0) ∧ (E1 = 12 → v.yes = false → E2 = 12) := by
  have hp : properB r = true := by
    unfold okP at hok
    rw [Bool.and_eq_true] at hok
    exact hok.1
  obtain ⟨q0, q1, q2⟩ := properB_num hp
  have hc := cnt_snoc r bill l v hok
  have hl : (l ++ [v]).length = l.length + 1 := by simp
  unfold carE at h1 h2
  rw [hc, hl] at h2
  rw [if_neg (show ¬ 120 < l.length by omega)] at h1
  rw [if_neg (show ¬ 120 < l.length + 1 by omega)] at h2
  generalize (cnt r bill l).yes = Y at *
  generalize (cnt r bill l).no = X at *
  generalize hg : (properB r && (decide (cc = r.cham) && isB bill)) = G at *
  cases G with
  | false => rw [if_pos rfl] at h1; exact ⟨fun e => by omega, fun e => by omega⟩
  | true =>
    rw [if_neg (by decide)] at h1 h2
    cases hy : v.yes with
    | true =>
      rw [hy] at h2
      refine ⟨fun e _ => ?_, fun _ e => by cases e⟩
      subst e
      split at h1
      · cases h1
      · rename_i hq
        split at h1
        · cases h1
        · rename_i hm
          simp only [if_true] at h2
          have e1 : r.den * ((Y + 1 : Nat) : Int) = r.den * (Y : Int) + r.den := by rw [show ((Y + 1 : Nat) : Int) = (Y : Int) + 1 by omega, Int.mul_add, Int.mul_one]
          have e2 : r.num * (((Y + 1 : Nat) : Int) + (X : Int)) = r.num * ((Y : Int) + (X : Int)) + r.num := by rw [show ((Y + 1 : Nat) : Int) + (X : Int) = ((Y : Int) + (X : Int)) + 1 by omega, Int.mul_add, Int.mul_one]
          rw [if_neg (by omega), e1, e2, if_neg (by omega)] at h2
          exact h2.symm
    | false =>
      rw [hy] at h2
      refine ⟨fun _ e => (by cases e), fun e _ => ?_⟩
      subst e
      split at h1
      · cases h1
      · rename_i hq
        split at h1
        · rename_i hm
          simp only [Bool.false_eq_true, if_false] at h2
          have e2 : r.num * ((Y : Int) + ((X + 1 : Nat) : Int)) = r.num * ((Y : Int) + (X : Int)) + r.num := by rw [show (Y : Int) + ((X + 1 : Nat) : Int) = ((Y : Int) + (X : Int)) + 1 by omega, Int.mul_add, Int.mul_one]
          rw [if_neg (by omega), e2, if_pos (by omega)] at h2
          exact h2.symm
        · cases h1
end Dg
end Go.Proofs.YtgncahnkkpjdpaaGreatDoor
/- Count of the reference of layer 39. No conditions but those that each theorem states. -/
namespace Go.Proofs.YtgncahnkkpjdpaaGreatDoor
open Go Go.RowKit Go.Sort Go.Maps
theorem rboolInfo : (Tryz.prog.info? 4).map (fun i => (i.zero, i.size, i.bytes)) = some (some (.bool false), 1, 1) := by kernel_rfl
/-- Which numbers stand in a list, as bools. -/
def hasL (n : Nat) (S : List Int) : List Value := (List.range n).map fun j => .bool (S.contains ((j : Nat) : Int))
theorem hasL_nil (n : Nat) : hasL n [] = List.replicate n (.bool false) := by
  unfold hasL
  refine List.eq_replicate_iff.2 ⟨by rw [List.length_map, List.length_range], fun b hb => ?_⟩
  obtain ⟨j, _, rfl⟩ := List.mem_map.1 hb
  rfl
theorem hasL_len (n : Nat) (S : List Int) : (hasL n S).length = n := by unfold hasL; rw [List.length_map, List.length_range]
theorem hasL_get (n : Nat) (S : List Int) (j : Nat) (h : j < n) : (hasL n S)[j]? = some (.bool (S.contains ((j : Nat) : Int))) := by
  unfold hasL; rw [List.getElem?_map, List.getElem?_range h]; rfl
theorem hasL_set (n : Nat) (S : List Int) (m : Nat) (h : m < n) : (hasL n S).set m (.bool true) = hasL n ((m : Int) :: S) := by
  refine List.ext_getElem? fun j => ?_
  rcases Nat.lt_or_ge j n with hj | hj
  · rw [hasL_get n _ j hj]
    by_cases e : m = j
    · subst e
      rw [List.getElem?_set_self (by rw [hasL_len]; exact h)]
      simp
    · rw [List.getElem?_set_ne e, hasL_get n S j hj]
      have : ((j : Nat) : Int) ≠ (m : Int) := by omega
      simp [this]
  · rw [List.getElem?_eq_none (by rw [List.length_set, hasL_len]; exact hj), List.getElem?_eq_none (by rw [hasL_len]; exact hj)]
theorem OwnV.cellR {w : World} {B g n cap : Nat} {T : TypeId} {xs : List Value} (h : OwnV w B T (.slice (some ⟨g, 0, none⟩) n cap) xs) {j : Nat} {u : Value} (hj : xs[j]? = some u) : w.cell? ⟨g, j, none⟩ = some u ∧ w.frozen? ⟨g, j, none⟩ = false := by
  rcases h.2 with ⟨h0, _⟩ | ⟨g', cap', cur, h0, _, hg, _, _, hsz, hx⟩
  · injection h0 with h1 _ _; cases h1
  · injection h0 with h1 h2 h3
    injection h1 with h1
    injection h1 with h1 _ _
    subst h1
    refine ⟨?_, frozen_of_row _ _ _ _ _ hg⟩
    rw [cell_of_row _ _ _ _ _ (0, 0) hg, ← Array.getElem?_toList]
    have h4 : (cur.toList.take (xs.length * 1))[j]? = some u := by rw [hx]; exact hj
    rw [List.getElem?_take] at h4
    split at h4
    · exact h4
    · exact absurd h4 (by simp)
def badL (l : List Nat) : List Value := l.map fun i => .int .i64 ((i : Nat) : Int)
theorem Dg.okP_eq (r : Dg.Rl) (bill : ByteArray) (l : List Dg.Vt) (k : Nat) (hk : k < l.length) : Dg.okP r bill l k = (Dg.properB r && (Dg.validB r bill l[k] && !((Dg.cntP r bill l k).seen.contains l[k].mem))) := by
  unfold Dg.okP Dg.okB Dg.cntP
  rw [List.getElem?_eq_getElem hk]
  cases Dg.properB r with
  | false => rfl
  | true =>
    show (true && (!((Dg.cntTo r bill l k).seen.contains l[k].mem) && Dg.validB r bill l[k])) = (true && (Dg.validB r bill l[k] && !((Dg.cntTo r bill l k).seen.contains l[k].mem)))
    rw [Bool.and_comm (!((Dg.cntTo r bill l k).seen.contains l[k].mem))]
/-- What the walk of Count holds at a vote. -/
structure CH (B g0 b o : Nat) (row : Array Value) (vc : List Value) (rs : List (Value × TypeId × List Value)) (X : World) : Prop where
  roll : X.heap[g0]? = some (.cells row 24 (0, 0))
  vote : ∀ (j : Nat) (u : Value), vc[j]? = some u → X.cell? ⟨b, o + j, none⟩ = some u
  own : OwnL X B rs
theorem CH.below {B g0 b o : Nat} {row : Array Value} {vc : List Value} {rs : List (Value × TypeId × List Value)} {X X' : World} (h : CH B g0 b o row vc rs X) (hb : Below X.heap.size X X') : CH B g0 b o row vc rs X' :=
  ⟨(hb.block _ (Array.getElem?_eq_some_iff.1 h.roll).1).trans h.roll, fun j u hu => (hb.cell (block_lt_of_cell (h.vote j u hu))).trans (h.vote j u hu), h.own.below hb⟩
set_option maxRecDepth 100000 in
set_option maxHeartbeats 16000000 in
theorem rcounted_of (ch q nu de : Int) (A : Option Addr) (n e : Nat) (K : List ByteArray) (bill : ByteArray) (AV : Option Addr) (nV eV : Nat) (l : List Dg.Vt) (w : World) (hK : K.length = n) (kn : n ≤ 10) (hkz : ∀ s ∈ K, s.size ≤ 4611686018427387904) (hS : Strs w w.heap.size A K)
    (hl : l.length = nV) (hn : nV ≤ 8) (hv : ∀ v ∈ l, Vt0 v) (hvz : ∀ v ∈ l, v.bill.size ≤ 100 ∧ (∀ s ∈ v.sig, s.size ≤ 1048576) ∧ (∀ s ∈ v.path, s.size ≤ 1048576)) (hV : Vts w w.heap.size AV l) (Y N : Int) (Bd : List Int) (hY : (((Dg.cnt ⟨ch, K, q, nu, de⟩ bill l).yes : Nat) : Int) = Y) (hN : (((Dg.cnt ⟨ch, K, q, nu, de⟩ bill l).no : Nat) : Int) = N) (hB : (Dg.cnt ⟨ch, K, q, nu, de⟩ bill l).bad.map Int.ofNat = Bd) (m : Nat) (hm : Bd.length = m) :
    Calls Tryz.prog 9 #[.agg #[.int .i64 ch, .slice A n e, .int .i64 q, .int .i64 nu, .int .i64 de], .string bill, .slice AV nV eV] w fun r w' => ∃ Ab cb, r = .returned (.tuple #[.int .i64 Y, .int .i64 N, .slice Ab m cb]) ∧ Nums w' Ab Bd ∧ Below w.heap.size w w' := by
  obtain ⟨bi, bi1, bi2, bi3, bi4⟩ := info_parts rboolInfo
  have hb := Below.news (Below.refl w.heap.size w) (.cells #[.int .i64 ch, .slice A n e, .int .i64 q, .int .i64 nu, .int .i64 de] 24)
  have hr := heap_alloc_new w (.cells #[.int .i64 ch, .slice A n e, .int .i64 q, .int .i64 nu, .int .i64 de] 24)
  replace hS := keepS hS hb
  replace hV := hV.keep hb
  obtain ⟨P, hP⟩ : ∃ P, Dg.properB ⟨ch, K, q, nu, de⟩ = P := ⟨_, rfl⟩
  have HP := hide hP; have HK := hide hK; have HKZ := hide hkz; have HL := hide hl; have HV := hide hv; have HVZ := hide hvz
  have HY := hide hY; have HN := hide hN; have HB := hide hB
  clear hP hK hkz hl hv hvz hY hN hB
  go_enter Tryz.func9, Tryz.ntmps9
  obtain ⟨r0, r1, r2, r3, r4⟩ := cells5 hr
  go_wp2_with fail
  generalize w.alloc (.cells #[.int .i64 ch, .slice A n e, .int .i64 q, .int .i64 nu, .int .i64 de] 24) = W0 at *
  generalize hg0 : w.heap.size = g0 at *
  refine (rproper_of ch q nu de A e n K P HP.out _ HK.out (by omega) HKZ.out hS).mono ?_
  rintro r w1 ⟨rfl, hb1⟩
  replace hS := keepS hS hb1
  replace hV := hV.keep hb1
  replace hr := (hb1.block _ (Array.getElem?_eq_some_iff.1 hr).1).trans hr
  clear r0 r1 r2 r3 r4
  obtain ⟨r0, r1, r2, r3, r4⟩ := cells5 hr
  replace hb := hb.trans (hb1.mono (by rw [← hg0]; exact hb.size))
  clear hb1
  go_wp2_with (at_make; go_loud (refine wpList_make_full _ rfl _ _ 56 rfl w1.heap.size 4 bi _ 1 Tryz.underlying56 bi1 bi2 bi3 _ _ _ _ n rfl rfl rfl rfl (by rw [bi4]; omega) (by unfold maxLen; omega) (Nat.le_refl _) ?_); intro w2 ho hgr)
  have hO : OwnV w2 w1.heap.size 4 (.slice (some ⟨w1.heap.size, 0, none⟩) n n) (hasL n []) := by
    unfold OwnV
    rw [hasL_nil, List.length_replicate]
    have h5 := ho
    rw [show n * 1 = n by omega] at h5
    rw [← toList_madeCells_one]
    exact h5
  have hb2 : Below w1.heap.size w1 w2 := below_own (World.ownsRow_nil w1 w1.heap.size 4 1) hgr (Nat.le_refl _)
  have hL0 : OwnL w2 w1.heap.size [(.slice none 0 0, 3, badL []), (.slice (some ⟨w1.heap.size, 0, none⟩) n n, 4, hasL n [])] := OwnL.empty ⟨fun r hr => by rw [List.mem_singleton.1 hr]; exact hO, List.pairwise_singleton _ _⟩ _
  clear ho hgr r0 r1 r2 r3 r4 hO
  go_loopw [9, 10, 11, 14] (fun yv nv bv iv wr => ∃ i : Nat, i ≤ nV ∧ iv = .int .i64 (i : Int) ∧ yv = .int .i64 ((Dg.cntP ⟨ch, K, q, nu, de⟩ bill l i).yes : Int) ∧ nv = .int .i64 ((Dg.cntP ⟨ch, K, q, nu, de⟩ bill l i).no : Int) ∧ OwnL wr w1.heap.size [(bv, 3, badL (Dg.cntP ⟨ch, K, q, nu, de⟩ bill l i).bad), (.slice (some ⟨w1.heap.size, 0, none⟩) n n, 4, hasL n (Dg.cntP ⟨ch, K, q, nu, de⟩ bill l i).seen)] ∧ Below w1.heap.size w1 wr) (fun _ _ _ iv _ => nV - (intOf iv).toNat)
  case atStart =>
    refine ⟨0, Nat.zero_le _, rfl, ?_, ?_, ?_, hb2⟩
    · rw [Dg.cntP_zero]; rfl
    · rw [Dg.cntP_zero]; rfl
    · rw [Dg.cntP_zero]; exact hL0
  case round =>
    obtain ⟨i, hi, rfl, rfl, rfl, hLr, hbr⟩ := hrel
    by_cases hlt : i < nV
    rotate_left
    · obtain rfl : i = nV := by omega
      have e1 : Dg.cntP ⟨ch, K, q, nu, de⟩ bill l i = Dg.cnt ⟨ch, K, q, nu, de⟩ bill l := by rw [← HL.out]; rfl
      rw [e1] at hLr ⊢
      have e3 : (badL (Dg.cnt ⟨ch, K, q, nu, de⟩ bill l).bad) = Bd.map (Value.int .i64) := by rw [← HB.out, List.map_map]; rfl
      rw [e3] at hLr
      obtain ⟨Ab, cb, hbv, hNm⟩ := hLr.head.nums
      subst hbv
      rw [HY.out, HN.out, hm]
      clear hLr e1 e3
      go_wp2
      exact bodyPost_ret (v := .tuple #[.int .i64 Y, .int .i64 N, .slice Ab m cb]) (by simp [results, Tryz.results9, go_sem]) rfl ⟨Ab, cb, rfl, hNm, by subst hg0; exact hb.trans (hbr.mono hb.size)⟩
    have hil : i < l.length := by rw [HL.out]; exact hlt
    have hi0 : (0 : Int) ≤ (i : Int) := by omega
    have hin : (i : Int) < (nV : Int) := by omega
    have hyn := Dg.cntP_sum ⟨ch, K, q, nu, de⟩ bill l i (by omega)
    have hok := Dg.okP_eq ⟨ch, K, q, nu, de⟩ bill l i hil
    have hst := Dg.cntP_succ ⟨ch, K, q, nu, de⟩ bill l i hil
    obtain ⟨b, off, rfl, hbl2, A1, A2, e1, e2, hvin, hcc⟩ := hV.get hil
    have hsl := (fun h => Dg.okP_spec (r := ⟨ch, K, q, nu, de⟩) (bill := bill) (l := l) (k := i) hil h)
    have hz := HV.out l[i] (List.getElem_mem hil)
    have hvz := HVZ.out l[i] (List.getElem_mem hil)
    generalize l[i] = v at *
    rw [HP.out] at hok
    have hH : (CH w1.heap.size g0 b (off + i * 7) #[.int .i64 ch, .slice A n e, .int .i64 q, .int .i64 nu, .int .i64 de] [.int .i64 v.mem, .string v.bill, .int .i64 v.cham, .bool v.yes, .int .i64 v.idx, .slice A1 v.sig.length e1, .slice A2 v.path.length e2] [(u11, 3, badL (Dg.cntP ⟨ch, K, q, nu, de⟩ bill l i).bad), (.slice (some ⟨w1.heap.size, 0, none⟩) n n, 4, hasL n (Dg.cntP ⟨ch, K, q, nu, de⟩ bill l i).seen)]) wr := ⟨(hbr.block _ (Array.getElem?_eq_some_iff.1 hr).1).trans hr, fun j u hu => (hbr.cell (p := ⟨b, off + i * 7 + j, none⟩) hbl2).trans (hcc j u (by rw [← Array.getElem?_toList]; exact hu)), hLr⟩
    have hvin2 := hvin.keep hbr
    have hSr := keepS hS hbr
    clear hcc hLr hvin
    have hmx : Tryz.prog.follows .mixedOrders = true := by kernel_rfl
    go_upto_region 9 with (fail)
    go_cut [48] from 27 to 48 (fun x wx => x = .bool (!(Dg.okP ⟨ch, K, q, nu, de⟩ bill l i)) ∧ Below wr.heap.size wr wx)
    case first =>
      cases P with
      | false =>
        go_quiet (fail)
        go_wp2_with fail
        go_meet
        exact ⟨by rw [hok]; rfl, below_drewN (Below.refl _ _) _⟩
      | true =>
        obtain ⟨R, hR⟩ : ∃ R, Dg.validB ⟨ch, K, q, nu, de⟩ bill v = R := ⟨_, rfl⟩
        have HR := hide hR
        have hmem : R = true → 0 ≤ v.mem ∧ v.mem < (n : Int) := fun h => by
          obtain ⟨_, _, x1, x2, _⟩ := Dg.validB_spec (hR.trans h)
          exact ⟨x1, by rw [← HK.out]; exact x2⟩
        rw [hR] at hok
        clear hR hst hsl
        have hHeld : (CH w1.heap.size g0 b (off + i * 7) #[.int .i64 ch, .slice A n e, .int .i64 q, .int .i64 nu, .int .i64 de] [.int .i64 v.mem, .string v.bill, .int .i64 v.cham, .bool v.yes, .int .i64 v.idx, .slice A1 v.sig.length e1, .slice A2 v.path.length e2] [(u11, 3, badL (Dg.cntP ⟨ch, K, q, nu, de⟩ bill l i).bad), (.slice (some ⟨w1.heap.size, 0, none⟩) n n, 4, hasL n (Dg.cntP ⟨ch, K, q, nu, de⟩ bill l i).seen)]) wr.drew := hH.below (Below.refl _ _).drew
        have hbz : Below wr.heap.size wr wr.drew := (Below.refl _ _).drew
        refine wp_region_noPanic ?_
        refine wp_region_L (CH w1.heap.size g0 b (off + i * 7) #[.int .i64 ch, .slice A n e, .int .i64 q, .int .i64 nu, .int .i64 de] [.int .i64 v.mem, .string v.bill, .int .i64 v.cham, .bool v.yes, .int .i64 v.idx, .slice A1 v.sig.length e1, .slice A2 v.path.length e2] [(u11, 3, badL (Dg.cntP ⟨ch, K, q, nu, de⟩ bill l i).bad), (.slice (some ⟨w1.heap.size, 0, none⟩) n n, 4, hasL n (Dg.cntP ⟨ch, K, q, nu, de⟩ bill l i).seen)]) 22 hmx ?_
        generalize wr.drew = u0 at *
        refine wpAnyL_take (i := 0) (f0 := 30) (v := ?_) rfl (by decide +kernel) (by decide +kernel) (by decide +kernel) (by decide +kernel) (by decide +kernel) (fun _ _ _ h => h) (Or.inl ⟨by rfl, ?_⟩) hHeld ?_
        rotate_left
        · intro wS hS; go_simp; (try with_reducible rfl)
        simp only [Act.put, List.getElem_toArray, List.getElem_cons_succ, List.getElem_cons_zero, List.setIfInBounds_toArray, List.set_cons_succ, List.set_cons_zero]
        refine wpAnyL_take (i := 1) (f0 := 30) (v := ?_) rfl (by decide +kernel) (by decide +kernel) (by decide +kernel) (by decide +kernel) (by decide +kernel) (fun _ _ _ h => h) (Or.inl ⟨by rfl, ?_⟩) hHeld ?_
        rotate_left
        · intro wS hS; go_simp; (try with_reducible rfl)
        simp only [Act.put, List.getElem_toArray, List.getElem_cons_succ, List.getElem_cons_zero, List.setIfInBounds_toArray, List.set_cons_succ, List.set_cons_zero]
        refine wpAnyL_take (i := 2) (f0 := 30) (v := ?_) rfl (by decide +kernel) (by decide +kernel) (by decide +kernel) (by decide +kernel) (by decide +kernel) (fun _ _ _ h => h) (Or.inl ⟨by rfl, ?_⟩) hHeld ?_
        rotate_left
        · intro wS hS; go_simp; (try with_reducible rfl)
        simp only [Act.put, List.getElem_toArray, List.getElem_cons_succ, List.getElem_cons_zero, List.setIfInBounds_toArray, List.set_cons_succ, List.set_cons_zero]
        refine wpAnyL_take (i := 3) (f0 := 30) (v := ?_) rfl (by decide +kernel) (by decide +kernel) (by decide +kernel) (by decide +kernel) (by decide +kernel) (fun _ _ _ h => h) (Or.inl ⟨by rfl, ?_⟩) hHeld ?_
        rotate_left
        · intro wS hS; obtain ⟨r0, r1, r2, r3, r4⟩ := cells5 hS.roll; go_simp; (try with_reducible rfl)
        simp only [Act.put, List.getElem_toArray, List.getElem_cons_succ, List.getElem_cons_zero, List.setIfInBounds_toArray, List.set_cons_succ, List.set_cons_zero]
        refine wpAnyL_take (i := 4) (f0 := 30) (v := ?_) rfl (by decide +kernel) (by decide +kernel) (by decide +kernel) (by decide +kernel) (by decide +kernel) (fun _ _ _ h => h) (Or.inl ⟨by rfl, ?_⟩) hHeld ?_
        rotate_left
        · intro wS hS; go_simp; (try with_reducible rfl)
        simp only [Act.put, List.getElem_toArray, List.getElem_cons_succ, List.getElem_cons_zero, List.setIfInBounds_toArray, List.set_cons_succ, List.set_cons_zero]
        refine wpAnyL_take (i := 5) (f0 := 30) (v := ?_) rfl (by decide +kernel) (by decide +kernel) (by decide +kernel) (by decide +kernel) (by decide +kernel) (fun _ _ _ h => h) (Or.inl ⟨by rfl, ?_⟩) hHeld ?_
        rotate_left
        · intro wS hS; go_simp; (try with_reducible rfl)
        simp only [Act.put, List.getElem_toArray, List.getElem_cons_succ, List.getElem_cons_zero, List.setIfInBounds_toArray, List.set_cons_succ, List.set_cons_zero]
        refine wpAnyL_take (i := 6) (f0 := 30) (v := ?_) rfl (by decide +kernel) (by decide +kernel) (by decide +kernel) (by decide +kernel) (by decide +kernel) (fun _ _ _ h => h) (Or.inl ⟨by rfl, ?_⟩) hHeld ?_
        rotate_left
        · intro wS hS; go_simp; (try with_reducible rfl)
        simp only [Act.put, List.getElem_toArray, List.getElem_cons_succ, List.getElem_cons_zero, List.setIfInBounds_toArray, List.set_cons_succ, List.set_cons_zero]
        refine wpAnyL_take (i := 7) (f0 := 30) (v := ?_) rfl (by decide +kernel) (by decide +kernel) (by decide +kernel) (by decide +kernel) (by decide +kernel) (fun _ _ _ h => h) (Or.inl ⟨by rfl, ?_⟩) hHeld ?_
        rotate_left
        · intro wS hS; go_simp; (try with_reducible rfl)
        simp only [Act.put, List.getElem_toArray, List.getElem_cons_succ, List.getElem_cons_zero, List.setIfInBounds_toArray, List.set_cons_succ, List.set_cons_zero]
        refine wpAnyL_take (i := 8) (f0 := 30) (v := ?_) rfl (by decide +kernel) (by decide +kernel) (by decide +kernel) (by decide +kernel) (by decide +kernel) (fun _ _ _ h => h) (Or.inl ⟨by rfl, ?_⟩) hHeld ?_
        rotate_left
        · intro wS hS; have p0 : wS.cell? ⟨b, off + i * 7, none⟩ = some (.int .i64 v.mem) := hS.vote 0 _ rfl; have p1 : wS.cell? ⟨b, off + i * 7 + 1, none⟩ = some (.string v.bill) := hS.vote 1 _ rfl; have p2 : wS.cell? ⟨b, off + i * 7 + 2, none⟩ = some (.int .i64 v.cham) := hS.vote 2 _ rfl; have p3 : wS.cell? ⟨b, off + i * 7 + 3, none⟩ = some (.bool v.yes) := hS.vote 3 _ rfl; have p4 : wS.cell? ⟨b, off + i * 7 + 4, none⟩ = some (.int .i64 v.idx) := hS.vote 4 _ rfl; have p5 : wS.cell? ⟨b, off + i * 7 + 5, none⟩ = some (.slice A1 v.sig.length e1) := hS.vote 5 _ rfl; have p6 : wS.cell? ⟨b, off + i * 7 + 6, none⟩ = some (.slice A2 v.path.length e2) := hS.vote 6 _ rfl; go_simp; (try with_reducible rfl)
        simp only [Act.put, List.getElem_toArray, List.getElem_cons_succ, List.getElem_cons_zero, List.setIfInBounds_toArray, List.set_cons_succ, List.set_cons_zero]
        refine wpAnyL_one (i := 9) (by decide +kernel) (by rfl) (fun K0 hK => ?_)
        rw [if_pos (by rfl)]
        go_simp
        refine (rvalid_of ch q nu de A n e K bill v.mem v.bill v.cham v.yes v.idx A1 A2 v.sig.length e1 v.path.length e2 v.sig v.path _ HK.out (by omega) (keepS hSr hbz) rfl hvz.2.1 (hvin2.keep hbz).1 rfl hvz.2.2 (hvin2.keep hbz).2.2.1 hvin2.2.2.2 hz.m0 hz.m1 hz.c0 hz.c1 hvz.1 R HR.out).mono ?_
        rintro r u1 ⟨rfl, hb5⟩
        replace hHeld := hHeld.below hb5
        replace hbz := hbz.trans (hb5.mono hbz.size)
        refine hK.out _ _ (Or.inr hHeld) ?_
        clear hK K0
        try simp only [Act.put, List.getElem_toArray, List.getElem_cons_succ, List.getElem_cons_zero, List.setIfInBounds_toArray, List.set_cons_succ, List.set_cons_zero]
        cases R with
        | false =>
          refine wpAnyL_take (i := 10) (f0 := 30) (v := ?_) rfl (by decide +kernel) (by decide +kernel) (by decide +kernel) (by decide +kernel) (by decide +kernel) (fun _ _ _ h => h) (Or.inl ⟨by rfl, ?_⟩) hHeld ?_
          rotate_left
          · intro wS hS; go_simp; (try with_reducible rfl)
          simp only [Act.put, List.getElem_toArray, List.getElem_cons_succ, List.getElem_cons_zero, List.setIfInBounds_toArray, List.set_cons_succ, List.set_cons_zero]
          refine wpAnyL_take (i := 11) (f0 := 30) (v := ?_) rfl (by decide +kernel) (by decide +kernel) (by decide +kernel) (by decide +kernel) (by decide +kernel) (fun _ _ _ h => h) (Or.inl ⟨by rfl, ?_⟩) hHeld ?_
          rotate_left
          · intro wS hS; go_simp; (try with_reducible rfl)
          simp only [Act.put, List.getElem_toArray, List.getElem_cons_succ, List.getElem_cons_zero, List.setIfInBounds_toArray, List.set_cons_succ, List.set_cons_zero]
          refine wpAnyL_take (i := 12) (f0 := 30) (v := ?_) rfl (by decide +kernel) (by decide +kernel) (by decide +kernel) (by decide +kernel) (by decide +kernel) (fun _ _ _ h => h) (Or.inl ⟨by rfl, ?_⟩) hHeld ?_
          rotate_left
          · intro wS hS; go_simp; (try with_reducible rfl)
          simp only [Act.put, List.getElem_toArray, List.getElem_cons_succ, List.getElem_cons_zero, List.setIfInBounds_toArray, List.set_cons_succ, List.set_cons_zero]
          refine wpAnyL_take (i := 13) (f0 := 30) (v := undef) rfl (by decide +kernel) (by decide +kernel) (by decide +kernel) (by decide +kernel) (by decide +kernel) (fun _ _ _ h => h) (Or.inr ⟨by rfl, rfl⟩) hHeld ?_
          simp only [Act.put, List.getElem_toArray, List.getElem_cons_succ, List.getElem_cons_zero, List.setIfInBounds_toArray, List.set_cons_succ, List.set_cons_zero]
          refine wpAnyL_take (i := 14) (f0 := 30) (v := undef) rfl (by decide +kernel) (by decide +kernel) (by decide +kernel) (by decide +kernel) (by decide +kernel) (fun _ _ _ h => h) (Or.inr ⟨by rfl, rfl⟩) hHeld ?_
          simp only [Act.put, List.getElem_toArray, List.getElem_cons_succ, List.getElem_cons_zero, List.setIfInBounds_toArray, List.set_cons_succ, List.set_cons_zero]
          refine wpAnyL_take (i := 15) (f0 := 30) (v := undef) rfl (by decide +kernel) (by decide +kernel) (by decide +kernel) (by decide +kernel) (by decide +kernel) (fun _ _ _ h => h) (Or.inr ⟨by rfl, rfl⟩) hHeld ?_
          simp only [Act.put, List.getElem_toArray, List.getElem_cons_succ, List.getElem_cons_zero, List.setIfInBounds_toArray, List.set_cons_succ, List.set_cons_zero]
          refine wpAnyL_take (i := 16) (f0 := 30) (v := undef) rfl (by decide +kernel) (by decide +kernel) (by decide +kernel) (by decide +kernel) (by decide +kernel) (fun _ _ _ h => h) (Or.inr ⟨by rfl, rfl⟩) hHeld ?_
          simp only [Act.put, List.getElem_toArray, List.getElem_cons_succ, List.getElem_cons_zero, List.setIfInBounds_toArray, List.set_cons_succ, List.set_cons_zero]
          refine wpAnyL_take (i := 17) (f0 := 30) (v := undef) rfl (by decide +kernel) (by decide +kernel) (by decide +kernel) (by decide +kernel) (by decide +kernel) (fun _ _ _ h => h) (Or.inr ⟨by rfl, rfl⟩) hHeld ?_
          simp only [Act.put, List.getElem_toArray, List.getElem_cons_succ, List.getElem_cons_zero, List.setIfInBounds_toArray, List.set_cons_succ, List.set_cons_zero]
          refine wpAnyL_take (i := 18) (f0 := 30) (v := undef) rfl (by decide +kernel) (by decide +kernel) (by decide +kernel) (by decide +kernel) (by decide +kernel) (fun _ _ _ h => h) (Or.inr ⟨by rfl, rfl⟩) hHeld ?_
          simp only [Act.put, List.getElem_toArray, List.getElem_cons_succ, List.getElem_cons_zero, List.setIfInBounds_toArray, List.set_cons_succ, List.set_cons_zero]
          refine wpAnyL_take (i := 19) (f0 := 30) (v := undef) rfl (by decide +kernel) (by decide +kernel) (by decide +kernel) (by decide +kernel) (by decide +kernel) (fun _ _ _ h => h) (Or.inr ⟨by rfl, rfl⟩) hHeld ?_
          simp only [Act.put, List.getElem_toArray, List.getElem_cons_succ, List.getElem_cons_zero, List.setIfInBounds_toArray, List.set_cons_succ, List.set_cons_zero]
          refine wpAnyL_take (i := 20) (f0 := 30) (v := undef) rfl (by decide +kernel) (by decide +kernel) (by decide +kernel) (by decide +kernel) (by decide +kernel) (fun _ _ _ h => h) (Or.inr ⟨by rfl, rfl⟩) hHeld ?_
          simp only [Act.put, List.getElem_toArray, List.getElem_cons_succ, List.getElem_cons_zero, List.setIfInBounds_toArray, List.set_cons_succ, List.set_cons_zero]
          refine wpAnyL_take (i := 21) (f0 := 30) (v := ?_) rfl (by decide +kernel) (by decide +kernel) (by decide +kernel) (by decide +kernel) (by decide +kernel) (fun _ _ _ h => h) (Or.inl ⟨by rfl, ?_⟩) hHeld ?_
          rotate_left
          · intro wS hS; go_simp; (try with_reducible rfl)
          simp only [Act.put, List.getElem_toArray, List.getElem_cons_succ, List.getElem_cons_zero, List.setIfInBounds_toArray, List.set_cons_succ, List.set_cons_zero]
          have HOK := hide hok
          clear hok hmem hHeld hH hyn
          refine wpAnyL_done (by decide +kernel) ?_ _
          refine NoPanic.normal ?_
          go_wp2_with fail
          go_meet
          exact ⟨by rw [HOK.out]; rfl, hbz⟩
        | true =>
          obtain ⟨x1, x2⟩ := hmem rfl
          obtain ⟨mm, hmm⟩ := Int.eq_ofNat_of_zero_le x1
          have hmn : mm < n := by omega
          have hm0 : (0 : Int) ≤ v.mem := x1
          have hseen := hasL_get n (Dg.cntP ⟨ch, K, q, nu, de⟩ bill l i).seen mm hmn
          obtain ⟨sc, hsc⟩ : ∃ x, (Dg.cntP ⟨ch, K, q, nu, de⟩ bill l i).seen.contains ((mm : Nat) : Int) = x := ⟨_, rfl⟩
          rw [hsc] at hseen
          rw [hmm, hsc] at hok
          clear hsc
          refine wpAnyL_take (i := 10) (f0 := 30) (v := ?_) rfl (by decide +kernel) (by decide +kernel) (by decide +kernel) (by decide +kernel) (by decide +kernel) (fun _ _ _ h => h) (Or.inl ⟨by rfl, ?_⟩) hHeld ?_
          rotate_left
          · intro wS hS; go_simp; (try with_reducible rfl)
          simp only [Act.put, List.getElem_toArray, List.getElem_cons_succ, List.getElem_cons_zero, List.setIfInBounds_toArray, List.set_cons_succ, List.set_cons_zero]
          refine wpAnyL_take (i := 11) (f0 := 30) (v := ?_) rfl (by decide +kernel) (by decide +kernel) (by decide +kernel) (by decide +kernel) (by decide +kernel) (fun _ _ _ h => h) (Or.inl ⟨by rfl, ?_⟩) hHeld ?_
          rotate_left
          · intro wS hS; go_simp; (try with_reducible rfl)
          simp only [Act.put, List.getElem_toArray, List.getElem_cons_succ, List.getElem_cons_zero, List.setIfInBounds_toArray, List.set_cons_succ, List.set_cons_zero]
          refine wpAnyL_take (i := 12) (f0 := 30) (v := ?_) rfl (by decide +kernel) (by decide +kernel) (by decide +kernel) (by decide +kernel) (by decide +kernel) (fun _ _ _ h => h) (Or.inl ⟨by rfl, ?_⟩) hHeld ?_
          rotate_left
          · intro wS hS; go_simp; (try with_reducible rfl)
          simp only [Act.put, List.getElem_toArray, List.getElem_cons_succ, List.getElem_cons_zero, List.setIfInBounds_toArray, List.set_cons_succ, List.set_cons_zero]
          refine wpAnyL_take (i := 13) (f0 := 30) (v := ?_) rfl (by decide +kernel) (by decide +kernel) (by decide +kernel) (by decide +kernel) (by decide +kernel) (fun _ _ _ h => h) (Or.inl ⟨by rfl, ?_⟩) hHeld ?_
          rotate_left
          · intro wS hS; go_simp; (try with_reducible rfl)
          simp only [Act.put, List.getElem_toArray, List.getElem_cons_succ, List.getElem_cons_zero, List.setIfInBounds_toArray, List.set_cons_succ, List.set_cons_zero]
          refine wpAnyL_take (i := 14) (f0 := 30) (v := ?_) rfl (by decide +kernel) (by decide +kernel) (by decide +kernel) (by decide +kernel) (by decide +kernel) (fun _ _ _ h => h) (Or.inl ⟨by rfl, ?_⟩) hHeld ?_
          rotate_left
          · intro wS hS; go_simp; (try with_reducible rfl)
          simp only [Act.put, List.getElem_toArray, List.getElem_cons_succ, List.getElem_cons_zero, List.setIfInBounds_toArray, List.set_cons_succ, List.set_cons_zero]
          refine wpAnyL_take (i := 15) (f0 := 30) (v := ?_) rfl (by decide +kernel) (by decide +kernel) (by decide +kernel) (by decide +kernel) (by decide +kernel) (fun _ _ _ h => h) (Or.inl ⟨by rfl, ?_⟩) hHeld ?_
          rotate_left
          · intro wS hS; go_simp; (try with_reducible rfl)
          simp only [Act.put, List.getElem_toArray, List.getElem_cons_succ, List.getElem_cons_zero, List.setIfInBounds_toArray, List.set_cons_succ, List.set_cons_zero]
          refine wpAnyL_take (i := 16) (f0 := 30) (v := ?_) rfl (by decide +kernel) (by decide +kernel) (by decide +kernel) (by decide +kernel) (by decide +kernel) (fun _ _ _ h => h) (Or.inl ⟨by rfl, ?_⟩) hHeld ?_
          rotate_left
          · intro wS hS; go_simp; (try with_reducible rfl)
          simp only [Act.put, List.getElem_toArray, List.getElem_cons_succ, List.getElem_cons_zero, List.setIfInBounds_toArray, List.set_cons_succ, List.set_cons_zero]
          refine wpAnyL_take (i := 17) (f0 := 30) (v := ?_) rfl (by decide +kernel) (by decide +kernel) (by decide +kernel) (by decide +kernel) (by decide +kernel) (fun _ _ _ h => h) (Or.inl ⟨by rfl, ?_⟩) hHeld ?_
          rotate_left
          · intro wS hS; go_simp; (try with_reducible rfl)
          simp only [Act.put, List.getElem_toArray, List.getElem_cons_succ, List.getElem_cons_zero, List.setIfInBounds_toArray, List.set_cons_succ, List.set_cons_zero]
          refine wpAnyL_take (i := 18) (f0 := 30) (v := ?_) rfl (by decide +kernel) (by decide +kernel) (by decide +kernel) (by decide +kernel) (by decide +kernel) (fun _ _ _ h => h) (Or.inl ⟨by rfl, ?_⟩) hHeld ?_
          rotate_left
          · intro wS hS; have p0 : wS.cell? ⟨b, off + i * 7, none⟩ = some (.int .i64 v.mem) := hS.vote 0 _ rfl; rw [hmm] at p0; have p1 : wS.cell? ⟨b, off + i * 7 + 1, none⟩ = some (.string v.bill) := hS.vote 1 _ rfl; have p2 : wS.cell? ⟨b, off + i * 7 + 2, none⟩ = some (.int .i64 v.cham) := hS.vote 2 _ rfl; have p3 : wS.cell? ⟨b, off + i * 7 + 3, none⟩ = some (.bool v.yes) := hS.vote 3 _ rfl; have p4 : wS.cell? ⟨b, off + i * 7 + 4, none⟩ = some (.int .i64 v.idx) := hS.vote 4 _ rfl; have p5 : wS.cell? ⟨b, off + i * 7 + 5, none⟩ = some (.slice A1 v.sig.length e1) := hS.vote 5 _ rfl; have p6 : wS.cell? ⟨b, off + i * 7 + 6, none⟩ = some (.slice A2 v.path.length e2) := hS.vote 6 _ rfl; go_simp; (try with_reducible rfl)
          simp only [Act.put, List.getElem_toArray, List.getElem_cons_succ, List.getElem_cons_zero, List.setIfInBounds_toArray, List.set_cons_succ, List.set_cons_zero]
          refine wpAnyL_take (i := 19) (f0 := 30) (v := ?_) rfl (by decide +kernel) (by decide +kernel) (by decide +kernel) (by decide +kernel) (by decide +kernel) (fun _ _ _ h => h) (Or.inl ⟨by rfl, ?_⟩) hHeld ?_
          rotate_left
          · intro wS hS; go_simp; (try with_reducible rfl)
          simp only [Act.put, List.getElem_toArray, List.getElem_cons_succ, List.getElem_cons_zero, List.setIfInBounds_toArray, List.set_cons_succ, List.set_cons_zero]
          refine wpAnyL_take (i := 20) (f0 := 30) (v := ?_) rfl (by decide +kernel) (by decide +kernel) (by decide +kernel) (by decide +kernel) (by decide +kernel) (fun _ _ _ h => h) (Or.inl ⟨by rfl, ?_⟩) hHeld ?_
          rotate_left
          · intro wS hS; have hc7 := ((hS.own.own _ (List.mem_cons_of_mem _ (List.mem_cons_self ..))).cellR hseen).1; go_simp; (try with_reducible rfl)
          simp only [Act.put, List.getElem_toArray, List.getElem_cons_succ, List.getElem_cons_zero, List.setIfInBounds_toArray, List.set_cons_succ, List.set_cons_zero]
          refine wpAnyL_take (i := 21) (f0 := 30) (v := ?_) rfl (by decide +kernel) (by decide +kernel) (by decide +kernel) (by decide +kernel) (by decide +kernel) (fun _ _ _ h => h) (Or.inl ⟨by rfl, ?_⟩) hHeld ?_
          rotate_left
          · intro wS hS; go_simp; (try with_reducible rfl)
          simp only [Act.put, List.getElem_toArray, List.getElem_cons_succ, List.getElem_cons_zero, List.setIfInBounds_toArray, List.set_cons_succ, List.set_cons_zero]
          have HOK := hide hok
          clear hok hmem hHeld hH hyn hseen
          refine wpAnyL_done (by decide +kernel) ?_ _
          refine NoPanic.normal ?_
          go_wp2_with fail
          go_meet
          exact ⟨by rw [HOK.out]; cases sc <;> rfl, hbz⟩
    case rest =>
      obtain ⟨rfl, hb6⟩ := hcut
      have hH6 := hH.below hb6
      have hbr6 := bnext hbr hb6
      have hs6 := hbr6.size
      cases hok2 : Dg.okP ⟨ch, K, q, nu, de⟩ bill l i with
      | false =>
        rw [hok2, if_neg Bool.false_ne_true] at hst
        have s1 : (Dg.cntP ⟨ch, K, q, nu, de⟩ bill l (i + 1)).yes = (Dg.cntP ⟨ch, K, q, nu, de⟩ bill l i).yes := by rw [hst]
        have s2 : (Dg.cntP ⟨ch, K, q, nu, de⟩ bill l (i + 1)).no = (Dg.cntP ⟨ch, K, q, nu, de⟩ bill l i).no := by rw [hst]
        have s3 : (Dg.cntP ⟨ch, K, q, nu, de⟩ bill l (i + 1)).seen = (Dg.cntP ⟨ch, K, q, nu, de⟩ bill l i).seen := by rw [hst]
        have s4 : (Dg.cntP ⟨ch, K, q, nu, de⟩ bill l (i + 1)).bad = (Dg.cntP ⟨ch, K, q, nu, de⟩ bill l i).bad ++ [i] := by rw [hst]
        have hLb := hH6.own
        clear hst hok hsl hH hH6
        have hbdl : (badL (Dg.cntP ⟨ch, K, q, nu, de⟩ bill l i).bad).length ≤ 8 := by unfold badL; rw [List.length_map]; omega
        have S1 := hide s1; have S2 := hide s2; have S3 := hide s3; have S4 := hide s4; clear s1 s2 s3 s4
        generalize (Dg.cntP ⟨ch, K, q, nu, de⟩ bill l i).yes = y1 at *
        generalize (Dg.cntP ⟨ch, K, q, nu, de⟩ bill l i).no = y2 at *
        generalize (Dg.cntP ⟨ch, K, q, nu, de⟩ bill l i).seen = y3 at *
        generalize (Dg.cntP ⟨ch, K, q, nu, de⟩ bill l i).bad = y4 at *
        go_upto_region 10 with (fail)
        have hx := Below.news (Below.refl wc.heap.size wc) (.cells #[.int .i64 (i : Int)] 3)
        have hLx := hLb.below hx
        go_wp2_with (at_builtin; refine wpList_wanted rfl fun KK hKK => wp_al (.tmp 49) (.tmp 51) 35 3 (.int .i64 0) 8 rfl Tryz.underlying35 intInfo rfl (by omega) w1.heap.size _ _ _ rfl hLx _ 1 1 [.int .i64 (i : Int)] rfl rfl (Src.lit wc #[.int .i64 (i : Int)] 3 (by intro u hu; simp at hu; subst hu; rfl)) (by omega) (by simp; omega) ?_; intro v2 w7 hL7 hb7; refine hKK _ _ ?_)
        go_roundw
        case rel => exact ⟨i + 1, by omega, by go_num, by rw [S1.out], by rw [S2.out], by rw [S3.out, S4.out]; unfold badL at hL7 ⊢; rw [List.map_append]; exact hL7, (hbr6.trans (hx.mono hs6)).trans hb7⟩
        case measure => simp [intOf]; omega
      | true =>
        rw [hok2, if_pos rfl] at hst
        obtain ⟨_, _, hvv⟩ := hsl hok2
        obtain ⟨_, _, x1, x2, _⟩ := Dg.validB_spec hvv
        replace x2 : v.mem < (n : Int) := by rw [← HK.out]; exact x2
        obtain ⟨mm, hmm⟩ := Int.eq_ofNat_of_zero_le x1
        have hmn : mm < n := by omega
        have hm0 : (0 : Int) ≤ (mm : Int) := by omega
        have hmn2 : (mm : Int) < (n : Int) := by omega
        have s1 : (Dg.cntP ⟨ch, K, q, nu, de⟩ bill l (i + 1)).yes = if v.yes then (Dg.cntP ⟨ch, K, q, nu, de⟩ bill l i).yes + 1 else (Dg.cntP ⟨ch, K, q, nu, de⟩ bill l i).yes := by rw [hst]
        have s2 : (Dg.cntP ⟨ch, K, q, nu, de⟩ bill l (i + 1)).no = if v.yes then (Dg.cntP ⟨ch, K, q, nu, de⟩ bill l i).no else (Dg.cntP ⟨ch, K, q, nu, de⟩ bill l i).no + 1 := by rw [hst]
        have s3 : (Dg.cntP ⟨ch, K, q, nu, de⟩ bill l (i + 1)).seen = (mm : Int) :: (Dg.cntP ⟨ch, K, q, nu, de⟩ bill l i).seen := by rw [hst, ← hmm]
        have s4 : (Dg.cntP ⟨ch, K, q, nu, de⟩ bill l (i + 1)).bad = (Dg.cntP ⟨ch, K, q, nu, de⟩ bill l i).bad := by rw [hst]
        have hLb := hH6.own
        have p0 : wc.cell? ⟨b, off + i * 7, none⟩ = some (.int .i64 (mm : Int)) := by rw [← hmm]; exact hH6.vote 0 _ rfl
        have p3 : wc.cell? ⟨b, off + i * 7 + 3, none⟩ = some (.bool v.yes) := hH6.vote 3 _ rfl
        obtain ⟨hc8, hf8⟩ := (hLb.own _ (List.mem_cons_of_mem _ (List.mem_cons_self ..))).cellR (hasL_get n (Dg.cntP ⟨ch, K, q, nu, de⟩ bill l i).seen mm hmn)
        clear hst hok hsl hH hH6 hvv
        have S1 := hide s1; have S2 := hide s2; have S3 := hide s3; have S4 := hide s4; clear s1 s2 s3 s4
        generalize (Dg.cntP ⟨ch, K, q, nu, de⟩ bill l i).yes = y1 at *
        generalize (Dg.cntP ⟨ch, K, q, nu, de⟩ bill l i).no = y2 at *
        generalize (Dg.cntP ⟨ch, K, q, nu, de⟩ bill l i).seen = y3 at *
        generalize (Dg.cntP ⟨ch, K, q, nu, de⟩ bill l i).bad = y4 at *
        have hL9 := (hLb.swap.set mm (.bool true)).swap
        rw [hasL_set n y3 mm hmn] at hL9
        have hb9 := hbr6.setCell (p := ⟨w1.heap.size, mm, none⟩) (Nat.le_refl _) (.bool true)
        have p3z : (wc.setCell ⟨w1.heap.size, mm, none⟩ (.bool true)).cell? ⟨b, off + i * 7 + 3, none⟩ = some (.bool v.yes) := (World.cell?_setCell_far _ _ _ _ (by show w1.heap.size ≠ b; omega)).trans p3
        clear p3 hLb
        go_upto_region 12 with (fail)
        clear hc8 hf8 p0
        generalize wc.setCell ⟨w1.heap.size, mm, none⟩ (.bool true) = wz at *
        cases hy : v.yes with
        | false =>
          rw [hy] at p3z S1 S2
          go_wp2
          go_roundw
          case rel => exact ⟨i + 1, by omega, by go_num, by rw [S1.out]; rfl, by rw [S2.out]; go_num, by rw [S3.out, S4.out]; exact hL9, hb9⟩
          case measure => simp [intOf]; omega
        | true =>
          rw [hy] at p3z S1 S2
          go_wp2
          go_roundw
          case rel => exact ⟨i + 1, by omega, by go_num, by rw [S1.out]; go_num, by rw [S2.out]; rfl, by rw [S3.out, S4.out]; exact hL9, hb9⟩
          case measure => simp [intOf]; omega
end Go.Proofs.YtgncahnkkpjdpaaGreatDoor
/- Carried of the reference of layer 39. No conditions but those that each theorem states. -/
namespace Go.Proofs.YtgncahnkkpjdpaaGreatDoor
open Go Go.RowKit Go.Sort Go.Maps
set_option maxRecDepth 100000 in
set_option maxHeartbeats 16000000 in
theorem rcarried_of (ch q nu de : Int) (A : Option Addr) (n e : Nat) (K : List ByteArray) (cc : Int) (bill : ByteArray) (AV : Option Addr) (nV eV : Nat) (l : List Dg.Vt) (w : World) (hK : K.length = n) (kn : n ≤ 10) (hkz : ∀ s ∈ K, s.size ≤ 4611686018427387904) (hS : Strs w w.heap.size A K)
    (hl : l.length = nV) (hn : nV ≤ 8) (hv : ∀ v ∈ l, Vt0 v) (hvz : ∀ v ∈ l, v.bill.size ≤ 100 ∧ (∀ s ∈ v.sig, s.size ≤ 1048576) ∧ (∀ s ∈ v.path, s.size ≤ 1048576)) (hV : Vts w w.heap.size AV l) (hbz : bill.size ≤ 100) (E : Int) (hE : Dg.carE ⟨ch, K, q, nu, de⟩ cc bill l = E) :
    Calls Tryz.prog 12 #[.agg #[.int .i64 ch, .slice A n e, .int .i64 q, .int .i64 nu, .int .i64 de], .agg #[.int .i64 cc, .string bill, .slice AV nV eV]] w fun r w' => r = .returned (.int .i64 E) ∧ Below w.heap.size w w' := by
  have hb := (((Below.refl w.heap.size w).alloc (Nat.le_refl _) (.cells #[.int .i64 ch, .slice A n e, .int .i64 q, .int .i64 nu, .int .i64 de] 24)).alloc (by simp) (.cells #[.int .i64 cc, .string bill, .slice AV nV eV] 27))
  have hr : ((w.alloc (.cells #[.int .i64 ch, .slice A n e, .int .i64 q, .int .i64 nu, .int .i64 de] 24)).alloc (.cells #[.int .i64 cc, .string bill, .slice AV nV eV] 27)).heap[w.heap.size]? = some (.cells #[.int .i64 ch, .slice A n e, .int .i64 q, .int .i64 nu, .int .i64 de] 24 (0, 0)) := ((Below.refl (w.alloc (.cells #[.int .i64 ch, .slice A n e, .int .i64 q, .int .i64 nu, .int .i64 de] 24)).heap.size (w.alloc (.cells #[.int .i64 ch, .slice A n e, .int .i64 q, .int .i64 nu, .int .i64 de] 24))).alloc (Nat.le_refl _) (.cells #[.int .i64 cc, .string bill, .slice AV nV eV] 27)).block _ (by simp) |>.trans (heap_alloc_new w _)
  have hc : ((w.alloc (.cells #[.int .i64 ch, .slice A n e, .int .i64 q, .int .i64 nu, .int .i64 de] 24)).alloc (.cells #[.int .i64 cc, .string bill, .slice AV nV eV] 27)).heap[w.heap.size + 1]? = some (.cells #[.int .i64 cc, .string bill, .slice AV nV eV] 27 (0, 0)) := by
    have h := heap_alloc_new (w.alloc (.cells #[.int .i64 ch, .slice A n e, .int .i64 q, .int .i64 nu, .int .i64 de] 24)) (.cells #[.int .i64 cc, .string bill, .slice AV nV eV] 27)
    rw [show (w.alloc (.cells #[.int .i64 ch, .slice A n e, .int .i64 q, .int .i64 nu, .int .i64 de] 24)).heap.size = w.heap.size + 1 by simp] at h
    exact h
  replace hS := (hS.below hb).more hb.size
  replace hV := (hV.keep (Below.news (Below.refl w.heap.size w) (.cells #[.int .i64 ch, .slice A n e, .int .i64 q, .int .i64 nu, .int .i64 de] 24))).keep (Below.news (Below.refl (w.alloc (.cells #[.int .i64 ch, .slice A n e, .int .i64 q, .int .i64 nu, .int .i64 de] 24)).heap.size (w.alloc (.cells #[.int .i64 ch, .slice A n e, .int .i64 q, .int .i64 nu, .int .i64 de] 24))) (.cells #[.int .i64 cc, .string bill, .slice AV nV eV] 27))
  have HE := hide hE; have HK := hide hK; have HKZ := hide hkz; have HL := hide hl; have HV := hide hv; have HVZ := hide hvz
  clear hE hK hkz hl hv hvz
  go_enter Tryz.func12, Tryz.ntmps12
  obtain ⟨r0, r1, r2, r3, r4⟩ := cells5 hr
  obtain ⟨d0, d1, d2⟩ := cells3 hc
  go_wp2_with fail
  generalize (w.alloc (.cells #[.int .i64 ch, .slice A n e, .int .i64 q, .int .i64 nu, .int .i64 de] 24)).alloc (.cells #[.int .i64 cc, .string bill, .slice AV nV eV] 27) = W0 at *
  generalize hg1 : w.heap.size + 1 = g1 at *
  cases hp : Dg.properB ⟨ch, K, q, nu, de⟩ with
  | false =>
    obtain rfl : E = 1 := by rw [← HE.out, Dg.carE, hp]; rfl
    have Hp := hide hp; clear hp HE
    refine (rproper_of ch q nu de A e n K false Hp.out _ HK.out (by omega) HKZ.out hS).mono ?_
    rintro r w1 ⟨rfl, hb1⟩
    replace hb := hb.trans (hb1.mono hb.size)
    go_wp2
    go_ret
    exact ⟨rfl, hb⟩
  | true =>
    have Hp := hide hp; clear hp
    refine (rproper_of ch q nu de A e n K true Hp.out _ HK.out (by omega) HKZ.out hS).mono ?_
    rintro r w1 ⟨rfl, hb1⟩
    clear r0 r1 r2 r3 r4 d0 d1 d2
    replace hr := (hb1.block _ (Array.getElem?_eq_some_iff.1 hr).1).trans hr
    replace hc := (hb1.block _ (Array.getElem?_eq_some_iff.1 hc).1).trans hc
    replace hS := keepS hS hb1
    replace hV := hV.keep hb1
    replace hb := hb.trans (hb1.mono hb.size)
    clear hb1
    obtain ⟨r0, r1, r2, r3, r4⟩ := cells5 hr
    obtain ⟨d0, d1, d2⟩ := cells3 hc
    by_cases hcc : cc = ch
    rotate_left
    · have f1 : (cc != ch) = true := bne_iff_ne.2 hcc
      have f2 : (cc == ch) = false := beq_eq_false_iff_ne.2 hcc
      obtain rfl : E = 1 := by rw [← HE.out, Dg.carE]; simp [hcc]
      clear HE hcc
      go_wp2
      go_ret
      exact ⟨rfl, hb⟩
    subst hcc
    have f2 : (cc == cc) = true := beq_self_eq_true cc
    have f1 : (cc != cc) = false := by rw [bne, f2]; rfl
    go_wp2_with fail
    cases hB : Dg.isB bill with
    | false =>
      obtain rfl : E = 1 := by rw [← HE.out, Dg.carE, hB]; simp
      clear HE
      refine (ris_same bill false hB (by omega) _).mono ?_
      rintro r w2 ⟨rfl, rfl⟩
      clear hB
      go_wp2
      go_ret
      exact ⟨rfl, hb⟩
    | true =>
      have HB := hide hB; clear hB
      refine (ris_same bill true HB.out (by omega) _).mono ?_
      rintro r w2 ⟨rfl, rfl⟩
      clear f1 f2
      have g1' : decide ((120 : Int) < (nV : Int)) = false := dec_f (by omega)
      have g2' : decide (120 < nV) = false := dec_f (by omega)
      obtain ⟨Y, hY⟩ : ∃ Y, (Dg.cnt ⟨cc, K, q, nu, de⟩ bill l).yes = Y := ⟨_, rfl⟩
      obtain ⟨X, hX⟩ : ∃ X, (Dg.cnt ⟨cc, K, q, nu, de⟩ bill l).no = X := ⟨_, rfl⟩
      obtain ⟨Bd, hBd⟩ : ∃ Bd, (Dg.cnt ⟨cc, K, q, nu, de⟩ bill l).bad.map Int.ofNat = Bd := ⟨_, rfl⟩
      have hsum := cnt_sum ⟨cc, K, q, nu, de⟩ bill l
      rw [hY, hX, HL.out] at hsum
      have hs8 : Y + X ≤ 8 := by omega
      have hEE : (if (Y : Int) + (X : Int) < q then (20 : Int) else if de * (Y : Int) ≤ nu * ((Y : Int) + (X : Int)) then 12 else 0) = E := by
        rw [← HE.out]
        unfold Dg.carE
        rw [Hp.out, HB.out, dec_t rfl, hY, hX, if_neg (show ¬ ((true && (true && true)) = false) by decide), if_neg (show ¬ 120 < l.length by rw [HL.out]; omega)]
      have HEE := hide hEE
      have HY := hide hY; have HX := hide hX; have HBd := hide hBd
      clear HE hEE hY hX hBd hsum
      go_wp2_with fail
      refine (rcounted_of cc q nu de A n e K bill AV nV eV l _ HK.out kn HKZ.out hS HL.out hn HV.out HVZ.out hV (Y : Int) (X : Int) Bd (by rw [HY.out]) (by rw [HX.out]) HBd.out _ rfl).mono ?_
      rintro r w3 ⟨Ab, cb, rfl, _, hb3⟩
      clear r0 r1 r2 r3 r4 d0 d1 d2
      replace hr := (hb3.block _ (Array.getElem?_eq_some_iff.1 hr).1).trans hr
      replace hc := (hb3.block _ (Array.getElem?_eq_some_iff.1 hc).1).trans hc
      replace hS := keepS hS hb3
      replace hV := hV.keep hb3
      replace hb := hb.trans (hb3.mono hb.size)
      clear hb3
      obtain ⟨r0, r1, r2, r3, r4⟩ := cells5 hr
      obtain ⟨d0, d1, d2⟩ := cells3 hc
      have hnum := Dg.properB_num Hp.out
      have q0 : 0 ≤ nu := hnum.1
      have q1 : nu < de := hnum.2.1
      have q2 : de ≤ 60 := hnum.2.2
      clear hnum
      have p0 : 0 ≤ de * (Y : Int) := Int.mul_nonneg (by omega) (by omega)
      have p1 : de * (Y : Int) ≤ 60 * 8 := Int.mul_le_mul q2 (by omega) (by omega) (by decide)
      have p2 : 0 ≤ nu * ((Y : Int) + (X : Int)) := Int.mul_nonneg (by omega) (by omega)
      have p3 : nu * ((Y : Int) + (X : Int)) ≤ 60 * 8 := Int.mul_le_mul (by omega) (by omega) (by omega) (by decide)
      have hEE := HEE.out
      clear HEE
      by_cases hq : (Y : Int) + (X : Int) < q
      · obtain rfl : E = 20 := by rw [← hEE, if_pos hq]
        have k1 : decide ((Y : Int) + (X : Int) < q) = true := dec_t hq
        clear hEE hq
        go_wp2
        go_ret
        exact ⟨rfl, hb⟩
      · have k1 : decide ((Y : Int) + (X : Int) < q) = false := dec_f hq
        by_cases hm : de * (Y : Int) ≤ nu * ((Y : Int) + (X : Int))
        · obtain rfl : E = 12 := by rw [← hEE, if_neg hq, if_pos hm]
          have k2 : decide (de * (Y : Int) ≤ nu * ((Y : Int) + (X : Int))) = true := dec_t hm
          clear hEE hq hm
          go_wp2
          go_ret
          exact ⟨rfl, hb⟩
        · obtain rfl : E = 0 := by rw [← hEE, if_neg hq, if_neg hm]
          have k2 : decide (de * (Y : Int) ≤ nu * ((Y : Int) + (X : Int))) = false := dec_f hm
          clear hEE hq hm
          go_wp2
          go_ret
          exact ⟨rfl, hb⟩
end Go.Proofs.YtgncahnkkpjdpaaGreatDoor

