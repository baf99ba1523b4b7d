/- Walks and laws of this seat, several texts in one: VLaw2. No conditions but those that each theorem states. -/
import Derived.Test.YtgncahnkkpjdpaaDoorNA4
/- What a seal of one vote says of another, in plain Lean. No program in sight. -/
namespace Go.Proofs.YtgncahnkkpjdpaaDoor.Dg
open Go
theorem decDigits_inj {a b : Nat} (ha : a < 10 ^ 20) (hb : b < 10 ^ 20) (h : Lib.decDigits a = Lib.decDigits b) : a = b := by
  rw [← decF_eq 20 a ha (by omega), ← decF_eq 20 b hb (by omega)] at h
  exact dec_inj ha hb h
theorem decDigits_no45 (a : Nat) (l : List UInt8) : Lib.decDigits a ≠ 45 :: l := fun h => by
  have h1 : ∀ c ∈ Lib.decDigits a, c ≠ 45 := fun c hc => by
    rw [Lib.decDigits_eq] at hc
    obtain ⟨t, _, rfl⟩ := List.mem_map.1 hc
    unfold Lib.dg
    intro e
    have := congrArg UInt8.toNat e
    rw [UInt8.toNat_ofNat'] at this
    have h3 : (45 : UInt8).toNat = 45 := rfl
    rw [h3] at this
    omega
  rw [h] at h1
  exact h1 45 (List.mem_cons_self ..) rfl
theorem itoa_inj {a b : Int} (ha : -9223372036854775808 ≤ a) (ha1 : a ≤ 9223372036854775807) (hb : -9223372036854775808 ≤ b) (hb1 : b ≤ 9223372036854775807) (h : Lib.itoa a = Lib.itoa b) : a = b := by
  unfold Lib.itoa at h
  by_cases h1 : a < 0
  · rw [if_pos h1] at h
    by_cases h2 : b < 0
    · rw [if_pos h2] at h
      injection h with _ h
      have := decDigits_inj (by omega) (by omega) h
      omega
    · rw [if_neg h2] at h
      exact absurd h.symm (decDigits_no45 _ _)
  · rw [if_neg h1] at h
    by_cases h2 : b < 0
    · rw [if_pos h2] at h
      exact absurd h (decDigits_no45 _ _)
    · rw [if_neg h2] at h
      have := decDigits_inj (by omega) (by omega) h
      omega
theorem decI_inj {a b : Int} (ha : -9223372036854775808 ≤ a) (ha1 : a ≤ 9223372036854775807) (hb : -9223372036854775808 ≤ b) (hb1 : b ≤ 9223372036854775807) (h : decI a = decI b) : a = b := itoa_inj ha ha1 hb hb1 (B_inj h)
theorem word_inj {a b : Bool} (h : word a = word b) : a = b := by cases a <;> cases b <;> first | rfl | (exact absurd h (by decide))
theorem msgL_sizes (m : Int) (b : ByteArray) (c : Int) (y : Bool) (hb : b.size ≤ 100) (m0 : -9223372036854775808 ≤ m) (m1 : m ≤ 9223372036854775807) (c0 : -9223372036854775808 ≤ c) (c1 : c ≤ 9223372036854775807) : ∀ s ∈ msgL m b c y, s.size ≤ 100 := by
  intro s hs
  have h1 := decI_size c c0 c1
  have h2 := decI_size m m0 m1
  have h3 := word_size y
  have h4 : sVote.size = 4 := rfl
  simp only [msgL, List.mem_cons, List.not_mem_nil, or_false] at hs
  rcases hs with rfl | rfl | rfl | rfl | rfl <;> omega
theorem msg_differ {m m' : Int} {b b' : ByteArray} {c c' : Int} {y y' : Bool} (hb : b.size ≤ 100) (hb' : b'.size ≤ 100) (m0 : -9223372036854775808 ≤ m) (m1 : m ≤ 9223372036854775807) (c0 : -9223372036854775808 ≤ c) (c1 : c ≤ 9223372036854775807) (n0 : -9223372036854775808 ≤ m') (n1 : m' ≤ 9223372036854775807) (d0 : -9223372036854775808 ≤ c') (d1 : c' ≤ 9223372036854775807)
    (h : b ≠ b' ∨ c ≠ c' ∨ m ≠ m' ∨ y ≠ y') : jB (msgL m b c y) ≠ jB (msgL m' b' c' y') := fun e => by
  have h1 := (joinedL_eq (msgL m b c y) (msgL m' b' c' y') (fun s hs => Nat.le_trans (msgL_sizes m b c y hb m0 m1 c0 c1 s hs) (by decide)) (fun s hs => Nat.le_trans (msgL_sizes m' b' c' y' hb' n0 n1 d0 d1 s hs) (by decide))).1 e
  unfold msgL at h1
  simp only [List.cons.injEq, true_and, and_true] at h1
  obtain ⟨h2, h3, h4, h5⟩ := h1
  rcases h with h | h | h | h
  · exact h h2
  · exact h (decI_inj c0 c1 d0 d1 h3)
  · exact h (decI_inj m0 m1 n0 n1 h4)
  · exact h (word_inj h5)
theorem msgB_eq (m : Int) (b : ByteArray) (c : Int) (y : Bool) : msgB m b c y = sumB (jB (msgL m b c y)) := (sumB_jB _).symm
/-- The roll of the statement. -/
def sRoll (c : Int) (key : ByteArray) (m : Nat) : Rl := ⟨c, List.replicate (m + 1) key, 1, 0, 1⟩
theorem sRoll_proper (c : Int) (key : ByteArray) (m : Nat) (hc : c = 1 ∨ c = 2) (hm : m ≤ 9) (hk : isB key = true) : properB (sRoll c key m) = true := by
  unfold properB sRoll ratioB allDig
  simp only [List.length_replicate, Bool.and_eq_true, decide_eq_true_eq, List.all_eq_true]
  refine ⟨hc, by omega, by omega, by omega, by omega, ⟨by omega, by omega, by omega⟩, fun s hs => ?_⟩
  rw [(List.mem_replicate.1 hs).2]; exact hk
theorem sRoll_key (c : Int) (key : ByteArray) (m : Nat) (k : Nat) (hk : k < m + 1) : (sRoll c key m).keys.getD k ⟨#[]⟩ = key := by
  unfold sRoll
  simp [List.getD, hk]
theorem one_count (r : Rl) (bill : ByteArray) (v : Vt) : cnt r bill [v] = if properB r && validB r bill v then ⟨[v.mem], if v.yes then 1 else 0, if v.yes then 0 else 1, []⟩ else ⟨[], 0, 0, [0]⟩ := by
  unfold cnt
  cases hp : properB r with
  | false => rfl
  | true =>
    simp only [if_true, Bool.true_and]
    have h0 : okB r bill (cntTo r bill [v] 0) v = validB r bill v := rfl
    show cntTo r bill [v] 1 = _
    rw [cntTo_succ _ _ _ _ (by simp)]
    unfold St.step
    rw [List.getElem_cons_zero, h0]
    by_cases hv : validB r bill v = true
    · rw [if_pos hv, if_pos hv]; rfl
    · rw [if_neg hv, if_neg hv]; rfl
theorem signed_counts (s : ByteArray) (h i m : Nat) (b : ByteArray) (c : Int) (y : Bool) (hh : h ≤ 8) (hi : i < 2 ^ h) (hc : c = 1 ∨ c = 2) (hm : m ≤ 9) :
    cnt (sRoll c (publicB s h) m) b [⟨m, b, c, y, i, sigB s i (msgB m b c y), sealPath s h i⟩] = ⟨[(m : Int)], if y then 1 else 0, if y then 0 else 1, []⟩ := by
  have hv : verifyB (publicB s h) (msgB m b c y) i (sigB s i (msgB m b c y)) (sealPath s h i) = true := verifyB_self s _ h i hh hi
  rw [one_count, sRoll_proper c _ m hc hm (verifyB_digest hv)]
  have : validB (sRoll c (publicB s h) m) b ⟨m, b, c, y, i, sigB s i (msgB m b c y), sealPath s h i⟩ = true := by
    unfold validB
    simp only [Bool.and_eq_true, decide_eq_true_eq]
    refine ⟨rfl, trivial, by omega, ?_, ?_⟩
    · show (m : Int) < (List.replicate (m + 1) _).length
      rw [List.length_replicate]; omega
    · rw [sRoll_key _ _ _ _ (by simp)]
      exact hv
  rw [this]
  rfl
theorem signed_other (s : ByteArray) (h i m : Nat) (c : Int) (b' : ByteArray) (m' c' : Int) (y' : Bool) (sig path : List ByteArray)
    (hx : 0 < (cnt (sRoll c (publicB s h) m) b' [⟨m', b', c', y', i, sig, path⟩]).yes + (cnt (sRoll c (publicB s h) m) b' [⟨m', b', c', y', i, sig, path⟩]).no) : verifyB (publicB s h) (msgB m' b' c' y') i sig path = true := by
  rw [one_count] at hx
  cases hv : (properB (sRoll c (publicB s h) m) && validB (sRoll c (publicB s h) m) b' ⟨m', b', c', y', i, sig, path⟩) with
  | false => rw [hv] at hx; simp at hx
  | true =>
    rw [Bool.and_eq_true] at hv
    obtain ⟨_, _, h3, h4, h5⟩ := validB_spec hv.2
    have h4' : m' < ((m + 1 : Nat) : Int) := by
      have : (sRoll c (publicB s h) m).keys.length = m + 1 := List.length_replicate
      rw [this] at h4; exact h4
    have h3' : 0 ≤ m' := h3
    rw [sRoll_key _ _ _ _ (by show m'.toNat < m + 1; omega)] at h5
    exact h5
end Go.Proofs.YtgncahnkkpjdpaaDoor.Dg

