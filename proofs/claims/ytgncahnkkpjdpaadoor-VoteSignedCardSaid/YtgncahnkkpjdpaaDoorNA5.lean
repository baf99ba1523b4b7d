/- Walks and laws of this seat, several texts in one: VLaw2, V14, V15. No conditions but those that each theorem states. -/
import Derived.Test.YtgncahnkkpjdpaaDoorNA4
/- What a seal of one vote says of another, in plain Lean. No program in sight. -/
namespace Go.Proofs.YtgncahnkkpjdpaaDoor.Dg
open Go
theorem decDigits_inj {a b : Nat} (ha : a < 10 ^ 20) (hb : b < 10 ^ 20) (h : Lib.decDigits a = Lib.decDigits b) : a = b := by
  rw [← decF_eq 20 a ha (by omega), ← decF_eq 20 b hb (by omega)] at h
  exact dec_inj ha hb h
theorem decDigits_no45 (a : Nat) (l : List UInt8) : Lib.decDigits a ≠ 45 :: l := fun h => by
  have h1 : ∀ c ∈ Lib.decDigits a, c ≠ 45 := fun c hc => by
    rw [Lib.decDigits_eq] at hc
    obtain ⟨t, _, rfl⟩ := List.mem_map.1 hc
    unfold Lib.dg
    intro e
    have := congrArg UInt8.toNat e
    rw [UInt8.toNat_ofNat'] at this
    have h3 : (45 : UInt8).toNat = 45 := rfl
    rw [h3] at this
    omega
  rw [h] at h1
  exact h1 45 (List.mem_cons_self ..) rfl
theorem itoa_inj {a b : Int} (ha : -9223372036854775808 ≤ a) (ha1 : a ≤ 9223372036854775807) (hb : -9223372036854775808 ≤ b) (hb1 : b ≤ 9223372036854775807) (h : Lib.itoa a = Lib.itoa b) : a = b := by
  unfold Lib.itoa at h
  by_cases h1 : a < 0
  · rw [if_pos h1] at h
    by_cases h2 : b < 0
    · rw [if_pos h2] at h
      injection h with _ h
      have := decDigits_inj (by omega) (by omega) h
      omega
    · rw [if_neg h2] at h
      exact absurd h.symm (decDigits_no45 _ _)
  · rw [if_neg h1] at h
    by_cases h2 : b < 0
    · rw [if_pos h2] at h
      exact absurd h (decDigits_no45 _ _)
    · rw [if_neg h2] at h
      have := decDigits_inj (by omega) (by omega) h
      omega
theorem decI_inj {a b : Int} (ha : -9223372036854775808 ≤ a) (ha1 : a ≤ 9223372036854775807) (hb : -9223372036854775808 ≤ b) (hb1 : b ≤ 9223372036854775807) (h : decI a = decI b) : a = b := itoa_inj ha ha1 hb hb1 (B_inj h)
theorem word_inj {a b : Bool} (h : word a = word b) : a = b := by cases a <;> cases b <;> first | rfl | (exact absurd h (by decide))
theorem msgL_sizes (m : Int) (b : ByteArray) (c : Int) (y : Bool) (hb : b.size ≤ 100) (m0 : -9223372036854775808 ≤ m) (m1 : m ≤ 9223372036854775807) (c0 : -9223372036854775808 ≤ c) (c1 : c ≤ 9223372036854775807) : ∀ s ∈ msgL m b c y, s.size ≤ 100 := by
  intro s hs
  have h1 := decI_size c c0 c1
  have h2 := decI_size m m0 m1
  have h3 := word_size y
  have h4 : sVote.size = 4 := rfl
  simp only [msgL, List.mem_cons, List.not_mem_nil, or_false] at hs
  rcases hs with rfl | rfl | rfl | rfl | rfl <;> omega
theorem msg_differ {m m' : Int} {b b' : ByteArray} {c c' : Int} {y y' : Bool} (hb : b.size ≤ 100) (hb' : b'.size ≤ 100) (m0 : -9223372036854775808 ≤ m) (m1 : m ≤ 9223372036854775807) (c0 : -9223372036854775808 ≤ c) (c1 : c ≤ 9223372036854775807) (n0 : -9223372036854775808 ≤ m') (n1 : m' ≤ 9223372036854775807) (d0 : -9223372036854775808 ≤ c') (d1 : c' ≤ 9223372036854775807)
    (h : b ≠ b' ∨ c ≠ c' ∨ m ≠ m' ∨ y ≠ y') : jB (msgL m b c y) ≠ jB (msgL m' b' c' y') := fun e => by
  have h1 := (joinedL_eq (msgL m b c y) (msgL m' b' c' y') (fun s hs => Nat.le_trans (msgL_sizes m b c y hb m0 m1 c0 c1 s hs) (by decide)) (fun s hs => Nat.le_trans (msgL_sizes m' b' c' y' hb' n0 n1 d0 d1 s hs) (by decide))).1 e
  unfold msgL at h1
  simp only [List.cons.injEq, true_and, and_true] at h1
  obtain ⟨h2, h3, h4, h5⟩ := h1
  rcases h with h | h | h | h
  · exact h h2
  · exact h (decI_inj c0 c1 d0 d1 h3)
  · exact h (decI_inj m0 m1 n0 n1 h4)
  · exact h (word_inj h5)
theorem msgB_eq (m : Int) (b : ByteArray) (c : Int) (y : Bool) : msgB m b c y = sumB (jB (msgL m b c y)) := (sumB_jB _).symm
/-- The roll of the statement. -/
def sRoll (c : Int) (key : ByteArray) (m : Nat) : Rl := ⟨c, List.replicate (m + 1) key, 1, 0, 1⟩
theorem sRoll_proper (c : Int) (key : ByteArray) (m : Nat) (hc : c = 1 ∨ c = 2) (hm : m ≤ 9) (hk : isB key = true) : properB (sRoll c key m) = true := by
  unfold properB sRoll ratioB allDig
  simp only [List.length_replicate, Bool.and_eq_true, decide_eq_true_eq, List.all_eq_true]
  refine ⟨hc, by omega, by omega, by omega, by omega, ⟨by omega, by omega, by omega⟩, fun s hs => ?_⟩
  rw [(List.mem_replicate.1 hs).2]; exact hk
theorem sRoll_key (c : Int) (key : ByteArray) (m : Nat) (k : Nat) (hk : k < m + 1) : (sRoll c key m).keys.getD k ⟨#[]⟩ = key := by
  unfold sRoll
  simp [List.getD, hk]
theorem one_count (r : Rl) (bill : ByteArray) (v : Vt) : cnt r bill [v] = if properB r && validB r bill v then ⟨[v.mem], if v.yes then 1 else 0, if v.yes then 0 else 1, []⟩ else ⟨[], 0, 0, [0]⟩ := by
  unfold cnt
  cases hp : properB r with
  | false => rfl
  | true =>
    simp only [if_true, Bool.true_and]
    have h0 : okB r bill (cntTo r bill [v] 0) v = validB r bill v := rfl
    show cntTo r bill [v] 1 = _
    rw [cntTo_succ _ _ _ _ (by simp)]
    unfold St.step
    rw [List.getElem_cons_zero, h0]
    by_cases hv : validB r bill v = true
    · rw [if_pos hv, if_pos hv]; rfl
    · rw [if_neg hv, if_neg hv]; rfl
theorem signed_counts (s : ByteArray) (h i m : Nat) (b : ByteArray) (c : Int) (y : Bool) (hh : h ≤ 8) (hi : i < 2 ^ h) (hc : c = 1 ∨ c = 2) (hm : m ≤ 9) :
    cnt (sRoll c (publicB s h) m) b [⟨m, b, c, y, i, sigB s i (msgB m b c y), sealPath s h i⟩] = ⟨[(m : Int)], if y then 1 else 0, if y then 0 else 1, []⟩ := by
  have hv : verifyB (publicB s h) (msgB m b c y) i (sigB s i (msgB m b c y)) (sealPath s h i) = true := verifyB_self s _ h i hh hi
  rw [one_count, sRoll_proper c _ m hc hm (verifyB_digest hv)]
  have : validB (sRoll c (publicB s h) m) b ⟨m, b, c, y, i, sigB s i (msgB m b c y), sealPath s h i⟩ = true := by
    unfold validB
    simp only [Bool.and_eq_true, decide_eq_true_eq]
    refine ⟨rfl, trivial, by omega, ?_, ?_⟩
    · show (m : Int) < (List.replicate (m + 1) _).length
      rw [List.length_replicate]; omega
    · rw [sRoll_key _ _ _ _ (by simp)]
      exact hv
  rw [this]
  rfl
theorem signed_other (s : ByteArray) (h i m : Nat) (c : Int) (b' : ByteArray) (m' c' : Int) (y' : Bool) (sig path : List ByteArray)
    (hx : 0 < (cnt (sRoll c (publicB s h) m) b' [⟨m', b', c', y', i, sig, path⟩]).yes + (cnt (sRoll c (publicB s h) m) b' [⟨m', b', c', y', i, sig, path⟩]).no) : verifyB (publicB s h) (msgB m' b' c' y') i sig path = true := by
  rw [one_count] at hx
  cases hv : (properB (sRoll c (publicB s h) m) && validB (sRoll c (publicB s h) m) b' ⟨m', b', c', y', i, sig, path⟩) with
  | false => rw [hv] at hx; simp at hx
  | true =>
    rw [Bool.and_eq_true] at hv
    obtain ⟨_, _, h3, h4, h5⟩ := validB_spec hv.2
    have h4' : m' < ((m + 1 : Nat) : Int) := by
      have : (sRoll c (publicB s h) m).keys.length = m + 1 := List.length_replicate
      rw [this] at h4; exact h4
    have h3' : 0 ≤ m' := h3
    rw [sRoll_key _ _ _ _ (by show m'.toNat < m + 1; omega)] at h5
    exact h5
end Go.Proofs.YtgncahnkkpjdpaaDoor.Dg
/- decimal, Fields of the reference of layer 39. No conditions but those that each theorem states. -/
namespace Go.Proofs.YtgncahnkkpjdpaaDoor
open Go Go.RowKit Go.Sort Go.Maps
theorem decRel_begin (k : Nat) (hk : 0 < k) : DecRel k k [] := ⟨fun h => by omega, fun _ => List.append_nil _⟩
set_option maxRecDepth 100000 in
set_option maxHeartbeats 4000000 in
theorem rdecI_neg (k : Nat) (hk : 0 < k) (hk2 : k ≤ 9223372036854775808) (w : World) :
    Calls Tryd.prog 44 #[.int .i64 (-(k : Int))] w fun e w' => e = .returned (.string (Dg.B (45 :: Lib.decDigits k))) ∧ w = w' := by
  have d0 : decide (0 ≤ -(k : Int)) = false := dec_f (by omega)
  go_enter Tryd.func44, Tryd.ntmps44
  go_wp2
  go_loop [0, 3] (fun a v => ∃ (q : Nat) (T : List UInt8), q ≤ 9223372036854775808 ∧ a = .int .i64 (-(q : Int)) ∧ v = .string (Dg.B T) ∧ Hid (DecRel k q T)) (fun a _ => (intOf a).natAbs)
  case atStart => exact ⟨k, [], hk2, rfl, rfl, decRel_begin k hk⟩
  case round =>
    obtain ⟨q, T, hq, rfl, rfl, HR⟩ := hrel
    by_cases h0 : 0 < q
    · have d1 : decide (-(q : Int) < 0) = true := dec_t (by omega)
      have hT : (Dg.B T).size ≤ 20 := by rw [Dg.size_B]; exact decRel_len k q T (by unfold Dg.M; omega) HR.out
      have hB := hide (B_cons (UInt8.ofNat (48 + q % 10)) T)
      have hnx := hide (decRel_next k q T h0 HR.out)
      have henc : Utf8.encode (48 + (q : Int) % 10) = Dg.B [UInt8.ofNat (48 + q % 10)] := by
        obtain ⟨d, hd⟩ : ∃ d : Nat, q % 10 = d := ⟨_, rfl⟩
        have e : (q : Int) % 10 = (d : Int) := by omega
        rw [e, hd]
        have hd10 : d < 10 := by omega
        rcases lt10 hd10 with rfl | rfl | rfl | rfl | rfl | rfl | rfl | rfl | rfl | rfl <;> decide +kernel
      have hX1 : (Dg.B [UInt8.ofNat (48 + q % 10)]).size = 1 := by rw [Dg.size_B]; rfl
      generalize Dg.B [UInt8.ofNat (48 + q % 10)] = X at *
      generalize Dg.B T = TT at *
      go_wp2
      go_round
      case rel => exact ⟨q / 10, _, by omega, by go_num, by rw [hB.out], hnx.out⟩
      case measure => simp only [intOf]; omega
    · obtain rfl : q = 0 := by omega
      have hT : (Dg.B T).size ≤ 20 := by rw [Dg.size_B]; exact decRel_len k 0 T (by unfold Dg.M; omega) HR.out
      have hT2 := hide (B_cons 45 T)
      have h45 : Dg.B [45] = ⟨#[45]⟩ := rfl
      rw [h45] at hT2
      have hTd : T = Lib.decDigits k := HR.out.1 rfl
      have HT := hide hTd; clear hTd
      generalize Dg.B T = TT at *
      go_wp2
      go_ret
      exact ⟨ret_str (by rw [hT2.out, HT.out]), rfl⟩
theorem rdecI_of (n : Int) (h0 : -9223372036854775808 ≤ n) (h1 : n ≤ 9223372036854775807) (D : ByteArray) (hD : Dg.decI n = D) (w : World) :
    Calls Tryd.prog 44 #[.int .i64 n] w fun e w' => e = .returned (.string D) ∧ w = w' := by
  subst hD
  by_cases hn : n < 0
  · have e : n = -((n.natAbs : Nat) : Int) := by omega
    have hd : Dg.decI n = Dg.B (45 :: Lib.decDigits n.natAbs) := by unfold Dg.decI Lib.itoa; rw [if_pos hn]; rfl
    rw [hd]
    generalize n.natAbs = k at *
    subst e
    exact rdecI_neg k (by omega) (by omega) w
  · obtain ⟨k, rfl⟩ := Int.eq_ofNat_of_zero_le (Int.not_lt.1 hn)
    have hd : Dg.decI (k : Int) = decB k := by unfold Dg.decI Lib.itoa; rw [if_neg hn, Int.toNat_natCast]; rfl
    rw [hd]
    generalize hdk : decB k = D
    have HD := hide hdk; clear hd hdk
    go_enter Tryd.func44, Tryd.ntmps44
    go_wp2_with fail
    refine (decimal_any k (by omega) _).mono ?_
    rintro e w' ⟨rfl, rfl⟩
    rw [HD.out]
    go_wp2
    go_ret
    exact ⟨rfl, rfl⟩
end Go.Proofs.YtgncahnkkpjdpaaDoor
/- Fields of the reference of layer 39. No conditions but those that each theorem states. -/
namespace Go.Proofs.YtgncahnkkpjdpaaDoor
open Go Go.RowKit Go.Sort Go.Maps
set_option maxRecDepth 100000 in
set_option maxHeartbeats 4000000 in
theorem rfields_true (m : Int) (b : ByteArray) (c : Int) (x1 : Int) (x2A x3A : Option Addr) (x2n x2c x3n x3c : Nat) (m0 : -9223372036854775808 ≤ m) (m1 : m ≤ 9223372036854775807) (c0 : -9223372036854775808 ≤ c) (c1 : c ≤ 9223372036854775807) (w : World) :
    Calls Tryd.prog 18 #[.agg #[.int .i64 m, .string b, .int .i64 c, .bool true, .int .i64 x1, .slice x2A x2n x2c, .slice x3A x3n x3c]] w fun e w' => ∃ A d, e = .returned (.slice A 5 d) ∧ Strs w' w'.heap.size A (Dg.msgL m b c true) ∧ 5 ≤ d ∧ Below w.heap.size w w' := by
  obtain ⟨D1, hD1⟩ : ∃ D, Dg.decI c = D := ⟨_, rfl⟩
  obtain ⟨D2, hD2⟩ : ∃ D, Dg.decI m = D := ⟨_, rfl⟩
  have hml : Dg.msgL m b c true = [⟨#[118, 111, 116, 101]⟩, b, D1, D2, ⟨#[121, 101, 115]⟩] := by unfold Dg.msgL; rw [hD1, hD2]; rfl
  have H1 := hide hD1; have H2 := hide hD2; have HM := hide hml; clear hD1 hD2 hml
  go_enter Tryd.func18, Tryd.ntmps18
  have hb := Below.news (Below.refl w.heap.size w) (.cells #[.int .i64 m, .string b, .int .i64 c, .bool true, .int .i64 x1, .slice x2A x2n x2c, .slice x3A x3n x3c] 33)
  have hr := heap_alloc_new w (.cells #[.int .i64 m, .string b, .int .i64 c, .bool true, .int .i64 x1, .slice x2A x2n x2c, .slice x3A x3n x3c] 33)
  go_upto_region 4 with (fail)
  generalize w.alloc (.cells #[.int .i64 m, .string b, .int .i64 c, .bool true, .int .i64 x1, .slice x2A x2n x2c, .slice x3A x3n x3c] 33) = W0 at *
  have hmx : Tryd.prog.follows .mixedOrders = true := by kernel_rfl
  have hHeld : (fun W : World => W.heap[w.heap.size]? = some (.cells #[.int .i64 m, .string b, .int .i64 c, .bool true, .int .i64 x1, .slice x2A x2n x2c, .slice x3A x3n x3c] 33 (0, 0))) W0.drew := hr
  replace hb := hb.drew
  refine wp_region_noPanic ?_
  refine wp_region_L (fun W : World => W.heap[w.heap.size]? = some (.cells #[.int .i64 m, .string b, .int .i64 c, .bool true, .int .i64 x1, .slice x2A x2n x2c, .slice x3A x3n x3c] 33 (0, 0))) 11 hmx ?_
  clear hr
  generalize W0.drew = u0 at *
  refine wpAnyL_take (i := 0) (f0 := 14) (v := ?_) rfl (by decide +kernel) (by decide +kernel) (by decide +kernel) (by decide +kernel) (by decide +kernel) (fun _ _ _ h => h) (Or.inl ⟨by rfl, ?_⟩) hHeld ?_
  rotate_left
  · intro wS hS; go_simp; (try with_reducible rfl)
  simp only [Act.put, List.getElem_toArray, List.getElem_cons_zero, List.setIfInBounds_toArray, List.set_cons_succ, List.set_cons_zero]
  refine wpAnyL_take (i := 1) (f0 := 14) (v := ?_) rfl (by decide +kernel) (by decide +kernel) (by decide +kernel) (by decide +kernel) (by decide +kernel) (fun _ _ _ h => h) (Or.inl ⟨by rfl, ?_⟩) hHeld ?_
  rotate_left
  · intro wS hS; obtain ⟨p0, p1, p2, p3, p4, p5, p6⟩ := cells7 hS; go_simp; (try with_reducible rfl)
  simp only [Act.put, List.getElem_toArray, List.getElem_cons_succ, List.getElem_cons_zero, List.setIfInBounds_toArray, List.set_cons_succ, List.set_cons_zero]
  refine wpAnyL_take (i := 2) (f0 := 14) (v := ?_) rfl (by decide +kernel) (by decide +kernel) (by decide +kernel) (by decide +kernel) (by decide +kernel) (fun _ _ _ h => h) (Or.inl ⟨by rfl, ?_⟩) hHeld ?_
  rotate_left
  · intro wS hS; go_simp; (try with_reducible rfl)
  simp only [Act.put, List.getElem_toArray, List.getElem_cons_succ, List.getElem_cons_zero, List.setIfInBounds_toArray, List.set_cons_succ, List.set_cons_zero]
  refine wpAnyL_take (i := 3) (f0 := 14) (v := ?_) rfl (by decide +kernel) (by decide +kernel) (by decide +kernel) (by decide +kernel) (by decide +kernel) (fun _ _ _ h => h) (Or.inl ⟨by rfl, ?_⟩) hHeld ?_
  rotate_left
  · intro wS hS; obtain ⟨p0, p1, p2, p3, p4, p5, p6⟩ := cells7 hS; go_simp; (try with_reducible rfl)
  simp only [Act.put, List.getElem_toArray, List.getElem_cons_succ, List.getElem_cons_zero, List.setIfInBounds_toArray, List.set_cons_succ, List.set_cons_zero]
  refine wpAnyL_take (i := 5) (f0 := 14) (v := ?_) rfl (by decide +kernel) (by decide +kernel) (by decide +kernel) (by decide +kernel) (by decide +kernel) (fun _ _ _ h => h) (Or.inl ⟨by rfl, ?_⟩) hHeld ?_
  rotate_left
  · intro wS hS; go_simp; (try with_reducible rfl)
  simp only [Act.put, List.getElem_toArray, List.getElem_cons_succ, List.getElem_cons_zero, List.setIfInBounds_toArray, List.set_cons_succ, List.set_cons_zero]
  refine wpAnyL_take (i := 6) (f0 := 14) (v := ?_) rfl (by decide +kernel) (by decide +kernel) (by decide +kernel) (by decide +kernel) (by decide +kernel) (fun _ _ _ h => h) (Or.inl ⟨by rfl, ?_⟩) hHeld ?_
  rotate_left
  · intro wS hS; obtain ⟨p0, p1, p2, p3, p4, p5, p6⟩ := cells7 hS; go_simp; (try with_reducible rfl)
  simp only [Act.put, List.getElem_toArray, List.getElem_cons_succ, List.getElem_cons_zero, List.setIfInBounds_toArray, List.set_cons_succ, List.set_cons_zero]
  refine wpAnyL_take (i := 8) (f0 := 14) (v := ?_) rfl (by decide +kernel) (by decide +kernel) (by decide +kernel) (by decide +kernel) (by decide +kernel) (fun _ _ _ h => h) (Or.inl ⟨by rfl, ?_⟩) hHeld ?_
  rotate_left
  · intro wS hS; go_simp; (try with_reducible rfl)
  simp only [Act.put, List.getElem_toArray, List.getElem_cons_succ, List.getElem_cons_zero, List.setIfInBounds_toArray, List.set_cons_succ, List.set_cons_zero]
  refine wpAnyL_one (i := 4) (by decide +kernel) (by rfl) (fun K hK => ?_)
  rw [if_pos (by rfl)]
  go_simp
  refine (rdecI_of c c0 c1 D1 H1.out _).mono ?_
  rintro r w1 ⟨rfl, rfl⟩
  refine hK.out _ _ (Or.inr hHeld) ?_
  clear hK K
  try simp only [Act.put, List.getElem_toArray, List.getElem_cons_succ, List.getElem_cons_zero, List.setIfInBounds_toArray, List.set_cons_succ, List.set_cons_zero]
  refine wpAnyL_one (i := 7) (by decide +kernel) (by rfl) (fun K hK => ?_)
  rw [if_pos (by rfl)]
  go_simp
  refine (rdecI_of m m0 m1 D2 H2.out _).mono ?_
  rintro r w1 ⟨rfl, rfl⟩
  refine hK.out _ _ (Or.inr hHeld) ?_
  clear hK K
  try simp only [Act.put, List.getElem_toArray, List.getElem_cons_succ, List.getElem_cons_zero, List.setIfInBounds_toArray, List.set_cons_succ, List.set_cons_zero]
  refine wpAnyL_one (i := 9) (by decide +kernel) (by rfl) (fun K hK => ?_)
  rw [if_pos (by rfl)]
  go_simp
  have hx := Below.news (Below.refl u0.heap.size u0) (.cells #[.string ⟨#[118, 111, 116, 101]⟩, .string b, .string D1, .string D2, .string ⟨#[121, 101, 115]⟩] 9)
  have hHx : (fun W : World => W.heap[w.heap.size]? = some (.cells #[.int .i64 m, .string b, .int .i64 c, .bool true, .int .i64 x1, .slice x2A x2n x2c, .slice x3A x3n x3c] 33 (0, 0))) (u0.alloc (.cells #[.string ⟨#[118, 111, 116, 101]⟩, .string b, .string D1, .string D2, .string ⟨#[121, 101, 115]⟩] 9)) := (hx.block _ (Array.getElem?_eq_some_iff.1 hHeld).1).trans hHeld
  have hS := Strs.new u0 [⟨#[118, 111, 116, 101]⟩, b, D1, D2, ⟨#[121, 101, 115]⟩] #[.string ⟨#[118, 111, 116, 101]⟩, .string b, .string D1, .string D2, .string ⟨#[121, 101, 115]⟩] 9 rfl
  replace hb := bnext hb hx
  refine hK.out _ _ (Or.inr hHx) ?_
  clear hK K
  try simp only [Act.put, List.getElem_toArray, List.getElem_cons_succ, List.getElem_cons_zero, List.setIfInBounds_toArray, List.set_cons_succ, List.set_cons_zero]
  clear hHeld
  have hHeld := hHx
  refine wpAnyL_take (i := 10) (f0 := 14) (v := ?_) rfl (by decide +kernel) (by decide +kernel) (by decide +kernel) (by decide +kernel) (by decide +kernel) (fun _ _ _ h => h) (Or.inl ⟨by rfl, ?_⟩) hHeld ?_
  rotate_left
  · intro wS hS; go_simp; (try with_reducible rfl)
  simp only [Act.put, List.getElem_toArray, List.getElem_cons_succ, List.getElem_cons_zero, List.setIfInBounds_toArray, List.set_cons_succ, List.set_cons_zero]
  refine wpAnyL_done (by decide +kernel) ?_ _
  refine NoPanic.normal ?_
  go_wp2
  go_ret
  exact ⟨_, 5, rfl, by rw [HM.out]; exact hS, Nat.le_refl _, hb⟩
set_option maxRecDepth 100000 in
set_option maxHeartbeats 4000000 in
theorem rfields_false (m : Int) (b : ByteArray) (c : Int) (x1 : Int) (x2A x3A : Option Addr) (x2n x2c x3n x3c : Nat) (m0 : -9223372036854775808 ≤ m) (m1 : m ≤ 9223372036854775807) (c0 : -9223372036854775808 ≤ c) (c1 : c ≤ 9223372036854775807) (w : World) :
    Calls Tryd.prog 18 #[.agg #[.int .i64 m, .string b, .int .i64 c, .bool false, .int .i64 x1, .slice x2A x2n x2c, .slice x3A x3n x3c]] w fun e w' => ∃ A d, e = .returned (.slice A 5 d) ∧ Strs w' w'.heap.size A (Dg.msgL m b c false) ∧ 5 ≤ d ∧ Below w.heap.size w w' := by
  obtain ⟨D1, hD1⟩ : ∃ D, Dg.decI c = D := ⟨_, rfl⟩
  obtain ⟨D2, hD2⟩ : ∃ D, Dg.decI m = D := ⟨_, rfl⟩
  have hml : Dg.msgL m b c false = [⟨#[118, 111, 116, 101]⟩, b, D1, D2, ⟨#[110, 111]⟩] := by unfold Dg.msgL; rw [hD1, hD2]; rfl
  have H1 := hide hD1; have H2 := hide hD2; have HM := hide hml; clear hD1 hD2 hml
  go_enter Tryd.func18, Tryd.ntmps18
  have hb := Below.news (Below.refl w.heap.size w) (.cells #[.int .i64 m, .string b, .int .i64 c, .bool false, .int .i64 x1, .slice x2A x2n x2c, .slice x3A x3n x3c] 33)
  have hr := heap_alloc_new w (.cells #[.int .i64 m, .string b, .int .i64 c, .bool false, .int .i64 x1, .slice x2A x2n x2c, .slice x3A x3n x3c] 33)
  go_upto_region 4 with (fail)
  generalize w.alloc (.cells #[.int .i64 m, .string b, .int .i64 c, .bool false, .int .i64 x1, .slice x2A x2n x2c, .slice x3A x3n x3c] 33) = W0 at *
  have hmx : Tryd.prog.follows .mixedOrders = true := by kernel_rfl
  have hHeld : (fun W : World => W.heap[w.heap.size]? = some (.cells #[.int .i64 m, .string b, .int .i64 c, .bool false, .int .i64 x1, .slice x2A x2n x2c, .slice x3A x3n x3c] 33 (0, 0))) W0.drew := hr
  replace hb := hb.drew
  refine wp_region_noPanic ?_
  refine wp_region_L (fun W : World => W.heap[w.heap.size]? = some (.cells #[.int .i64 m, .string b, .int .i64 c, .bool false, .int .i64 x1, .slice x2A x2n x2c, .slice x3A x3n x3c] 33 (0, 0))) 11 hmx ?_
  clear hr
  generalize W0.drew = u0 at *
  refine wpAnyL_take (i := 0) (f0 := 14) (v := ?_) rfl (by decide +kernel) (by decide +kernel) (by decide +kernel) (by decide +kernel) (by decide +kernel) (fun _ _ _ h => h) (Or.inl ⟨by rfl, ?_⟩) hHeld ?_
  rotate_left
  · intro wS hS; go_simp; (try with_reducible rfl)
  simp only [Act.put, List.getElem_toArray, List.getElem_cons_zero, List.setIfInBounds_toArray, List.set_cons_succ, List.set_cons_zero]
  refine wpAnyL_take (i := 1) (f0 := 14) (v := ?_) rfl (by decide +kernel) (by decide +kernel) (by decide +kernel) (by decide +kernel) (by decide +kernel) (fun _ _ _ h => h) (Or.inl ⟨by rfl, ?_⟩) hHeld ?_
  rotate_left
  · intro wS hS; obtain ⟨p0, p1, p2, p3, p4, p5, p6⟩ := cells7 hS; go_simp; (try with_reducible rfl)
  simp only [Act.put, List.getElem_toArray, List.getElem_cons_succ, List.getElem_cons_zero, List.setIfInBounds_toArray, List.set_cons_succ, List.set_cons_zero]
  refine wpAnyL_take (i := 2) (f0 := 14) (v := ?_) rfl (by decide +kernel) (by decide +kernel) (by decide +kernel) (by decide +kernel) (by decide +kernel) (fun _ _ _ h => h) (Or.inl ⟨by rfl, ?_⟩) hHeld ?_
  rotate_left
  · intro wS hS; go_simp; (try with_reducible rfl)
  simp only [Act.put, List.getElem_toArray, List.getElem_cons_succ, List.getElem_cons_zero, List.setIfInBounds_toArray, List.set_cons_succ, List.set_cons_zero]
  refine wpAnyL_take (i := 3) (f0 := 14) (v := ?_) rfl (by decide +kernel) (by decide +kernel) (by decide +kernel) (by decide +kernel) (by decide +kernel) (fun _ _ _ h => h) (Or.inl ⟨by rfl, ?_⟩) hHeld ?_
  rotate_left
  · intro wS hS; obtain ⟨p0, p1, p2, p3, p4, p5, p6⟩ := cells7 hS; go_simp; (try with_reducible rfl)
  simp only [Act.put, List.getElem_toArray, List.getElem_cons_succ, List.getElem_cons_zero, List.setIfInBounds_toArray, List.set_cons_succ, List.set_cons_zero]
  refine wpAnyL_take (i := 5) (f0 := 14) (v := ?_) rfl (by decide +kernel) (by decide +kernel) (by decide +kernel) (by decide +kernel) (by decide +kernel) (fun _ _ _ h => h) (Or.inl ⟨by rfl, ?_⟩) hHeld ?_
  rotate_left
  · intro wS hS; go_simp; (try with_reducible rfl)
  simp only [Act.put, List.getElem_toArray, List.getElem_cons_succ, List.getElem_cons_zero, List.setIfInBounds_toArray, List.set_cons_succ, List.set_cons_zero]
  refine wpAnyL_take (i := 6) (f0 := 14) (v := ?_) rfl (by decide +kernel) (by decide +kernel) (by decide +kernel) (by decide +kernel) (by decide +kernel) (fun _ _ _ h => h) (Or.inl ⟨by rfl, ?_⟩) hHeld ?_
  rotate_left
  · intro wS hS; obtain ⟨p0, p1, p2, p3, p4, p5, p6⟩ := cells7 hS; go_simp; (try with_reducible rfl)
  simp only [Act.put, List.getElem_toArray, List.getElem_cons_succ, List.getElem_cons_zero, List.setIfInBounds_toArray, List.set_cons_succ, List.set_cons_zero]
  refine wpAnyL_take (i := 8) (f0 := 14) (v := ?_) rfl (by decide +kernel) (by decide +kernel) (by decide +kernel) (by decide +kernel) (by decide +kernel) (fun _ _ _ h => h) (Or.inl ⟨by rfl, ?_⟩) hHeld ?_
  rotate_left
  · intro wS hS; go_simp; (try with_reducible rfl)
  simp only [Act.put, List.getElem_toArray, List.getElem_cons_succ, List.getElem_cons_zero, List.setIfInBounds_toArray, List.set_cons_succ, List.set_cons_zero]
  refine wpAnyL_one (i := 4) (by decide +kernel) (by rfl) (fun K hK => ?_)
  rw [if_pos (by rfl)]
  go_simp
  refine (rdecI_of c c0 c1 D1 H1.out _).mono ?_
  rintro r w1 ⟨rfl, rfl⟩
  refine hK.out _ _ (Or.inr hHeld) ?_
  clear hK K
  try simp only [Act.put, List.getElem_toArray, List.getElem_cons_succ, List.getElem_cons_zero, List.setIfInBounds_toArray, List.set_cons_succ, List.set_cons_zero]
  refine wpAnyL_one (i := 7) (by decide +kernel) (by rfl) (fun K hK => ?_)
  rw [if_pos (by rfl)]
  go_simp
  refine (rdecI_of m m0 m1 D2 H2.out _).mono ?_
  rintro r w1 ⟨rfl, rfl⟩
  refine hK.out _ _ (Or.inr hHeld) ?_
  clear hK K
  try simp only [Act.put, List.getElem_toArray, List.getElem_cons_succ, List.getElem_cons_zero, List.setIfInBounds_toArray, List.set_cons_succ, List.set_cons_zero]
  refine wpAnyL_one (i := 9) (by decide +kernel) (by rfl) (fun K hK => ?_)
  rw [if_pos (by rfl)]
  go_simp
  have hx := Below.news (Below.refl u0.heap.size u0) (.cells #[.string ⟨#[118, 111, 116, 101]⟩, .string b, .string D1, .string D2, .string ⟨#[110, 111]⟩] 9)
  have hHx : (fun W : World => W.heap[w.heap.size]? = some (.cells #[.int .i64 m, .string b, .int .i64 c, .bool false, .int .i64 x1, .slice x2A x2n x2c, .slice x3A x3n x3c] 33 (0, 0))) (u0.alloc (.cells #[.string ⟨#[118, 111, 116, 101]⟩, .string b, .string D1, .string D2, .string ⟨#[110, 111]⟩] 9)) := (hx.block _ (Array.getElem?_eq_some_iff.1 hHeld).1).trans hHeld
  have hS := Strs.new u0 [⟨#[118, 111, 116, 101]⟩, b, D1, D2, ⟨#[110, 111]⟩] #[.string ⟨#[118, 111, 116, 101]⟩, .string b, .string D1, .string D2, .string ⟨#[110, 111]⟩] 9 rfl
  replace hb := bnext hb hx
  refine hK.out _ _ (Or.inr hHx) ?_
  clear hK K
  try simp only [Act.put, List.getElem_toArray, List.getElem_cons_succ, List.getElem_cons_zero, List.setIfInBounds_toArray, List.set_cons_succ, List.set_cons_zero]
  clear hHeld
  have hHeld := hHx
  refine wpAnyL_take (i := 10) (f0 := 14) (v := ?_) rfl (by decide +kernel) (by decide +kernel) (by decide +kernel) (by decide +kernel) (by decide +kernel) (fun _ _ _ h => h) (Or.inl ⟨by rfl, ?_⟩) hHeld ?_
  rotate_left
  · intro wS hS; go_simp; (try with_reducible rfl)
  simp only [Act.put, List.getElem_toArray, List.getElem_cons_succ, List.getElem_cons_zero, List.setIfInBounds_toArray, List.set_cons_succ, List.set_cons_zero]
  refine wpAnyL_done (by decide +kernel) ?_ _
  refine NoPanic.normal ?_
  go_wp2
  go_ret
  exact ⟨_, 5, rfl, by rw [HM.out]; exact hS, Nat.le_refl _, hb⟩
theorem rfields_of (m : Int) (b : ByteArray) (c : Int) (y : Bool) (x1 : Int) (x2A x3A : Option Addr) (x2n x2c x3n x3c : Nat) (m0 : -9223372036854775808 ≤ m) (m1 : m ≤ 9223372036854775807) (c0 : -9223372036854775808 ≤ c) (c1 : c ≤ 9223372036854775807) (w : World) :
    Calls Tryd.prog 18 #[.agg #[.int .i64 m, .string b, .int .i64 c, .bool y, .int .i64 x1, .slice x2A x2n x2c, .slice x3A x3n x3c]] w fun e w' => ∃ A d, e = .returned (.slice A 5 d) ∧ Strs w' w'.heap.size A (Dg.msgL m b c y) ∧ 5 ≤ d ∧ Below w.heap.size w w' := by
  cases y
  · exact rfields_false m b c x1 x2A x3A x2n x2c x3n x3c m0 m1 c0 c1 w
  · exact rfields_true m b c x1 x2A x3A x2n x2c x3n x3c m0 m1 c0 c1 w
end Go.Proofs.YtgncahnkkpjdpaaDoor

