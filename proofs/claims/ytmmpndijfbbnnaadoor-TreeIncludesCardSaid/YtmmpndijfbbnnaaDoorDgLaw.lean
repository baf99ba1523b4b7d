/- The digest's laws as plain mathematics: form, one block, short texts, chains, joined texts. -/
import Derived.Test.YtmmpndijfbbnnaaDoorDg
namespace Go.Proofs.YtmmpndijfbbnnaaDoor
namespace Dg
theorem isDig_hexDigit (d : Nat) (h : d < 16) : isDig (hexDigit d) = true := by
  have : ∀ d, d < 16 → isDig (hexDigit d) = true := by decide +kernel
  exact this d h
theorem hexTo_all (s n : Nat) : (hexTo s n).all isDig = true := by
  induction n with
  | zero => rfl
  | succ n ih => rw [hexTo, List.all_append, ih]; simp [isDig_hexDigit _ (Nat.mod_lt _ (by omega : 16 > 0))]
theorem is_sum (l : List UInt8) : is (sum l) = true := by
  have h : (sum l).all isDig = true := hexTo_all _ _
  rw [is, h, sum_len]; rfl
theorem isB_sumB (s : ByteArray) : isB (sumB s) = true := is_sum _
theorem isB_listB (l : List ByteArray) : isB (listB l) = true := is_sum _
theorem isB_chainB (s : ByteArray) (n : Nat) (h : 0 < n) : isB (chainB s n) = true := by
  obtain ⟨k, rfl⟩ : ∃ k, n = k + 1 := ⟨n - 1, by omega⟩
  exact is_sum _
theorem chain_add (l : List UInt8) (a b : Nat) : chain (chain l a) b = chain l (a + b) := by
  induction b with
  | zero => rfl
  | succ b ih => rw [← Nat.add_assoc, chain_succ, chain_succ, ih]
theorem chainB_add (s : ByteArray) (a b : Nat) : chainB (chainB s a) b = chainB s (a + b) := by
  unfold chainB
  rw [L_B, chain_add]
theorem hexDigit_inj {a b : Nat} (ha : a < 16) (hb : b < 16) (h : hexDigit a = hexDigit b) : a = b := by
  have : ∀ a, a < 16 → ∀ b, b < 16 → hexDigit a = hexDigit b → a = b := by decide +kernel
  exact this a ha b hb h
theorem nibs (a b n : Nat) (h : ∀ k, k < n → a / 16 ^ k % 16 = b / 16 ^ k % 16) : a % 16 ^ n = b % 16 ^ n := by
  induction n with
  | zero => simp [Nat.mod_one]
  | succ n ih => rw [Nat.mod_pow_succ, Nat.mod_pow_succ, ih fun k hk => h k (by omega), h n (by omega)]
theorem hex_inj {a b : Nat} (ha : a < M) (hb : b < M) (h : hex a = hex b) : a = b := by
  have h1 := nibs a b 16 fun k hk => by
    have e1 := hexTo_get a 16 (15 - k) (by omega)
    have e2 := hexTo_get b 16 (15 - k) (by omega)
    unfold hex at h
    rw [h, e2, show 15 - (15 - k) = k by omega] at e1
    exact (hexDigit_inj (Nat.mod_lt _ (by omega)) (Nat.mod_lt _ (by omega)) (Option.some.inj e1)).symm
  rwa [Nat.mod_eq_of_lt (show a < 16 ^ 16 from ha), Nat.mod_eq_of_lt (show b < 16 ^ 16 from hb)] at h1
theorem sum_state {a b : List UInt8} (h : sum a = sum b) : state a = state b := hex_inj (state_lt a) (state_lt b) h
theorem xor_cancel {a b c : Nat} (h : a ^^^ b = a ^^^ c) : b = c := by
  have : a ^^^ (a ^^^ b) = a ^^^ (a ^^^ c) := by rw [h]
  rwa [← Nat.xor_assoc, ← Nat.xor_assoc, Nat.xor_self, Nat.zero_xor, Nat.zero_xor] at this
theorem run_inj (k : Nat) : ∀ (s t : Nat) (l : List UInt8), s < M → t < M → run k s l = run k t l → s = t := by
  induction k with
  | zero => intro s t l _ _ h; exact h
  | succ k ih =>
    intro s t l hs ht h
    have h1 := ih _ _ _ (mix_lt _) (mix_lt _) h
    have h2 := mix_inj (xor_lt hs (blk_lt l)) (xor_lt ht (blk_lt l)) h1
    rw [Nat.xor_comm s, Nat.xor_comm t] at h2
    exact xor_cancel h2
theorem blkTo_inj (l m : List UInt8) (n : Nat) (h : blkTo l n = blkTo m n) : ∀ i, i < n → l.getD i 0 = m.getD i 0 := by
  induction n with
  | zero => intro i hi; omega
  | succ n ih =>
    rw [blkTo, blkTo] at h
    have h1 := (l.getD n 0).toNat_lt
    have h2 := (m.getD n 0).toNat_lt
    intro i hi
    by_cases hin : i < n
    · exact ih (by omega) i hin
    · obtain rfl : i = n := by omega
      exact UInt8.toNat_inj.1 (by omega)
theorem take_eq_of_getD (l m : List UInt8) (n : Nat) (hl : l.length = m.length) (h : ∀ i, i < n → l.getD i 0 = m.getD i 0) : l.take n = m.take n := by
  apply List.ext_getElem?
  intro i
  rw [List.getElem?_take, List.getElem?_take]
  by_cases hi : i < n
  · rw [if_pos hi, if_pos hi]
    have := h i hi
    by_cases h2 : i < l.length
    · rw [List.getD_eq_getElem?_getD, List.getD_eq_getElem?_getD, List.getElem?_eq_getElem h2, List.getElem?_eq_getElem (by omega)] at this
      rw [List.getElem?_eq_getElem h2, List.getElem?_eq_getElem (by omega)]
      exact congrArg some this
    · rw [List.getElem?_eq_none (by omega), List.getElem?_eq_none (by omega)]
  · rw [if_neg hi, if_neg hi]
theorem run_block (j : Nat) : ∀ (s : Nat) (l m : List UInt8), s < M → l.length = m.length → 8 * j ≤ l.length → l.take (8 * j) = m.take (8 * j) → l.drop (8 * j + 8) = m.drop (8 * j + 8) →
    run (l.length / 8 + 1) s l = run (m.length / 8 + 1) s m → l = m := by
  induction j with
  | zero =>
    intro s l m hs hl _ _ hd h
    rw [hl] at h
    rw [Nat.mul_zero, Nat.zero_add] at hd
    rw [run, run, hd] at h
    have h1 := run_inj _ _ _ _ (mix_lt _) (mix_lt _) h
    have h2 := xor_cancel (mix_inj (xor_lt hs (blk_lt l)) (xor_lt hs (blk_lt m)) h1)
    have h3 := take_eq_of_getD l m 8 hl (blkTo_inj l m 8 h2)
    rw [← List.take_append_drop 8 l, ← List.take_append_drop 8 m, h3, hd]
  | succ j ih =>
    intro s l m hs hl hlen ht hd h
    have h8 : l.take 8 = m.take 8 := by
      have := congrArg (List.take 8) ht
      rwa [List.take_take, List.take_take, Nat.min_eq_left (by omega)] at this
    rw [run_step s l (by omega), run_step s m (by omega), ← blk_take l, ← blk_take m, h8] at h
    have h1 := ih _ (l.drop 8) (m.drop 8) (mix_lt _) (by rw [List.length_drop, List.length_drop, hl]) (by rw [List.length_drop]; omega)
      (by have := congrArg (List.drop 8) ht; rwa [List.drop_take, List.drop_take, show 8 * (j + 1) - 8 = 8 * j by omega] at this)
      (by rw [List.drop_drop, List.drop_drop, show 8 + (8 * j + 8) = 8 * (j + 1) + 8 by omega]; exact hd) h
    rw [← List.take_append_drop 8 l, ← List.take_append_drop 8 m, h8, h1]
theorem iv_lt (n : Nat) (h : n < M) : 1442695040888963407 ^^^ n < M := xor_lt (by unfold M; omega) h
/-- Texts of one length that differ within one block alone have different digests. -/
theorem sum_block (j : Nat) (l m : List UInt8) (hM : l.length < M) (hl : l.length = m.length) (hj : 8 * j ≤ l.length) (ht : l.take (8 * j) = m.take (8 * j)) (hd : l.drop (8 * j + 8) = m.drop (8 * j + 8)) (h : sum l = sum m) : l = m := by
  have := sum_state h
  unfold state at this
  rw [← hl] at this
  exact run_block j _ l m (iv_lt _ hM) hl hj ht hd (by rw [← hl]; exact this)
theorem blk_short (l : List UInt8) (h : l.length ≤ 7) : blk l % 256 = 0 := by
  unfold blk
  rw [blkTo, List.getD_eq_getElem?_getD, List.getElem?_eq_none (by omega)]
  simp
/-- Different texts of at most 7 bytes have different digests. -/
theorem sum_short (l m : List UInt8) (hl : l.length ≤ 7) (hm : m.length ≤ 7) (h : sum l = sum m) : l = m := by
  have h1 := sum_state h
  unfold state at h1
  rw [show l.length / 8 = 0 by omega, show m.length / 8 = 0 by omega, run, run, run, run] at h1
  have h2 := mix_inj (xor_lt (iv_lt _ (by unfold M; omega)) (blk_lt l)) (xor_lt (iv_lt _ (by unfold M; omega)) (blk_lt m)) h1
  rw [Nat.xor_assoc, Nat.xor_assoc] at h2
  have h3 := xor_cancel h2
  have key : ∀ x : List UInt8, x.length ≤ 7 → (x.length ^^^ blk x) % 2 ^ 8 = x.length := by
    intro x hx
    rw [Nat.xor_mod_two_pow, show blk x % 2 ^ 8 = 0 from blk_short x hx, Nat.xor_zero, Nat.mod_eq_of_lt (by omega)]
  have hlen : l.length = m.length := by rw [← key l hl, ← key m hm, h3]
  rw [hlen] at h3
  have h4 := take_eq_of_getD l m 8 hlen (blkTo_inj l m 8 (xor_cancel h3))
  rwa [List.take_of_length_le (by omega), List.take_of_length_le (by omega)] at h4
theorem B_inj {a b : List UInt8} (h : B a = B b) : a = b := by rw [← L_B a, ← L_B b, h]
theorem sumB_short {x y : ByteArray} (hx : x.size ≤ 7) (hy : y.size ≤ 7) (h : sumB x = sumB y) : x = y :=
  L_inj (sum_short _ _ (by rw [len_L]; exact hx) (by rw [len_L]; exact hy) (B_inj h))
theorem L_append (a b : ByteArray) : L (a ++ b) = L a ++ L b := by simp [L, ByteArray.data_append]
/-- One piece or the other at a block's beginning: one digest exactly if the pieces are one. -/
theorem block_ne (s : ByteArray) (p k m : Nat) (x y : ByteArray) (hx : x.size = k) (hy : y.size = k) (hk : x.size ≤ 8) (hp : 8 * p ≤ s.size) (hs : s.size ≤ 1099511627776) (hm : m = min (8 * p + k) s.size)
    (h : sumB (s.extract 0 (8 * p) ++ x ++ s.extract m s.size) = sumB (s.extract 0 (8 * p) ++ y ++ s.extract m s.size)) : x = y := by
  have h1 := B_inj h
  rw [L_append, L_append, L_append, L_append, L_extract, L_extract, List.drop_zero, List.take_of_length_le (by rw [len_L]; omega : (L s).length ≤ s.size)] at h1
  have hxl : (L x).length = k := by rw [len_L, hx]
  have hyl : (L y).length = k := by rw [len_L, hy]
  have hPl : ((L s).take (8 * p)).length = 8 * p := by rw [List.length_take, len_L]; omega
  have hsl := len_L s
  have h2 := sum_block p _ _ (by simp only [List.length_append, hPl, hxl, List.length_drop, hsl]; unfold M at *; omega) (by simp only [List.length_append, hxl, hyl]) (by simp only [List.length_append, hPl]; omega)
    (by rw [List.append_assoc, List.append_assoc, List.take_append_of_le_length (by omega), List.take_append_of_le_length (by omega)])
    (by
      have key : ∀ z : List UInt8, z.length = k → ((L s).take (8 * p) ++ z ++ (L s).drop m).drop (8 * p + 8) = (L s).drop (m + (8 - k)) := by
        intro z hz
        rw [List.append_assoc, List.drop_append, List.drop_append, hPl, hz, List.drop_of_length_le (by rw [hPl]; omega), List.drop_of_length_le (by omega), List.drop_drop]
        simp only [List.nil_append]
        congr 1
        omega
      rw [key _ hxl, key _ hyl]) h1
  have h3 : L x ++ (L s).drop m = L y ++ (L s).drop m := by
    rw [List.append_assoc, List.append_assoc] at h2
    exact List.append_cancel_left h2
  exact L_inj (List.append_cancel_right h3)
theorem decF_ne (f n : Nat) (hf : 0 < f) : decF f n ≠ [] := by
  obtain ⟨f, rfl⟩ : ∃ k, f = k + 1 := ⟨f - 1, by omega⟩
  rw [decF]
  split
  · simp
  · simp
theorem ofNat_inj {a b : Nat} (ha : a < 10) (hb : b < 10) (h : UInt8.ofNat (48 + a) = UInt8.ofNat (48 + b)) : a = b := by
  have := congrArg UInt8.toNat h
  rw [UInt8.toNat_ofNat', UInt8.toNat_ofNat'] at this
  omega
theorem decF_inj (f : Nat) : ∀ n m, n < 10 ^ f → m < 10 ^ f → 0 < f → decF f n = decF f m → n = m := by
  induction f with
  | zero => intro n m _ _ h; omega
  | succ f ih =>
    intro n m hn hm _ h
    rw [decF, decF] at h
    by_cases h1 : n < 10
    · rw [if_pos h1] at h
      by_cases h2 : m < 10
      · rw [if_pos h2] at h
        exact ofNat_inj h1 h2 (by simpa using h)
      · rw [if_neg h2] at h
        have h3 : 0 < f := by
          rcases Nat.eq_zero_or_pos f with h0 | h0
          · subst h0; simp at hm; omega
          · exact h0
        have h4 := congrArg List.length h
        rw [List.length_append, List.length_singleton, List.length_singleton] at h4
        have h5 : (decF f (m / 10)).length ≠ 0 := fun h0 => decF_ne f (m / 10) h3 (List.eq_nil_of_length_eq_zero h0)
        omega
    · rw [if_neg h1] at h
      have h3 : 0 < f := by
        rcases Nat.eq_zero_or_pos f with h0 | h0
        · subst h0; simp at hn; omega
        · exact h0
      by_cases h2 : m < 10
      · rw [if_pos h2] at h
        have h4 := congrArg List.length h
        rw [List.length_append, List.length_singleton, List.length_singleton] at h4
        have h5 : (decF f (n / 10)).length ≠ 0 := fun h0 => decF_ne f (n / 10) h3 (List.eq_nil_of_length_eq_zero h0)
        omega
      · rw [if_neg h2] at h
        have h6 := List.append_inj' h rfl
        have h7 := ih (n / 10) (m / 10) (by rw [Nat.pow_succ] at hn; omega) (by rw [Nat.pow_succ] at hm; omega) h3 h6.1
        have h8 := ofNat_inj (Nat.mod_lt n (by omega)) (Nat.mod_lt m (by omega)) (by simpa using h6.2)
        omega
theorem dec_inj {n m : Nat} (hn : n < 10 ^ 20) (hm : m < 10 ^ 20) (h : dec n = dec m) : n = m := decF_inj 20 n m hn hm (by omega) h
theorem decF_no58 (f n : Nat) : ∀ c ∈ decF f n, c ≠ 58 := by
  induction f generalizing n with
  | zero => intro c hc; simp [decF] at hc
  | succ f ih =>
    have key : ∀ k, k < 10 → UInt8.ofNat (48 + k) ≠ 58 := by decide +kernel
    intro c hc
    rw [decF] at hc
    split at hc
    · obtain rfl : c = UInt8.ofNat (48 + n) := by simpa using hc
      exact key n (by assumption)
    · rcases List.mem_append.1 hc with h | h
      · exact ih _ c h
      · obtain rfl : c = UInt8.ofNat (48 + n % 10) := by simpa using h
        exact key _ (Nat.mod_lt _ (by omega))
theorem split58 (a b x y : List UInt8) (ha : ∀ c ∈ a, c ≠ 58) (hb : ∀ c ∈ b, c ≠ 58) (h : a ++ 58 :: x = b ++ 58 :: y) : a = b ∧ x = y := by
  induction a generalizing b with
  | nil =>
    cases b with
    | nil => simpa using h
    | cons c b =>
      simp at h
      exact absurd h.1.symm (hb c (List.mem_cons_self ..))
  | cons d a ih =>
    cases b with
    | nil =>
      simp at h
      exact absurd h.1 (ha d (List.mem_cons_self ..))
    | cons c b =>
      simp only [List.cons_append, List.cons.injEq] at h
      obtain ⟨h1, h2⟩ := ih b (fun c hc => ha c (List.mem_cons_of_mem _ hc)) (fun c hc => hb c (List.mem_cons_of_mem _ hc)) h.2
      exact ⟨by rw [h.1, h1], h2⟩
theorem joined_cons (a : List UInt8) (l : List (List UInt8)) : joined (a :: l) = dec a.length ++ 58 :: (a ++ joined l) := by simp [joined]
/-- Different lists have different joined texts. -/
theorem joined_inj (l : List (List UInt8)) : ∀ m : List (List UInt8), (∀ a ∈ l, a.length < 10 ^ 20) → (∀ a ∈ m, a.length < 10 ^ 20) → joined l = joined m → l = m := by
  induction l with
  | nil =>
    intro m _ _ h
    cases m with
    | nil => rfl
    | cons b m =>
      rw [joined_cons] at h
      simp [joined] at h
  | cons a l ih =>
    intro m hl hm h
    cases m with
    | nil =>
      rw [joined_cons] at h
      simp [joined] at h
    | cons b m =>
      rw [joined_cons, joined_cons] at h
      obtain ⟨h1, h2⟩ := split58 _ _ _ _ (decF_no58 20 _) (decF_no58 20 _) h
      have h3 := dec_inj (hl a (List.mem_cons_self ..)) (hm b (List.mem_cons_self ..)) h1
      obtain ⟨h4, h5⟩ := List.append_inj h2 h3
      rw [h4, ih m (fun c hc => hl c (List.mem_cons_of_mem _ hc)) (fun c hc => hm c (List.mem_cons_of_mem _ hc)) h5]
theorem mapL_inj {l m : List ByteArray} (h : l.map L = m.map L) : l = m := by
  induction l generalizing m with
  | nil => cases m with
    | nil => rfl
    | cons b m => simp at h
  | cons a l ih => cases m with
    | nil => simp at h
    | cons b m =>
      simp only [List.map_cons, List.cons.injEq] at h
      rw [L_inj h.1, ih h.2]
theorem joinedL_inj (l m : List ByteArray) (hl : ∀ s ∈ l, s.size ≤ 1099511627776) (hm : ∀ s ∈ m, s.size ≤ 1099511627776) (h : joinedL l = joinedL m) : l = m := by
  refine mapL_inj (joined_inj _ _ (fun a ha => ?_) (fun a ha => ?_) h)
  · obtain ⟨s, hs, rfl⟩ := List.mem_map.1 ha
    rw [len_L]; exact Nat.lt_of_le_of_lt (hl s hs) (by decide)
  · obtain ⟨s, hs, rfl⟩ := List.mem_map.1 ha
    rw [len_L]; exact Nat.lt_of_le_of_lt (hm s hs) (by decide)
theorem joinedL_eq (l m : List ByteArray) (hl : ∀ s ∈ l, s.size ≤ 1099511627776) (hm : ∀ s ∈ m, s.size ≤ 1099511627776) : B (joinedL l) = B (joinedL m) ↔ l = m :=
  ⟨fun h => joinedL_inj l m hl hm (B_inj h), fun h => by rw [h]⟩
theorem listB_short (l m : List ByteArray) (hl : ∀ s ∈ l, s.size ≤ 1099511627776) (hm : ∀ s ∈ m, s.size ≤ 1099511627776) (h1 : (B (joinedL l)).size ≤ 7) (h2 : (B (joinedL m)).size ≤ 7) (h : listB l = listB m) : l = m := by
  rw [size_B] at h1 h2
  exact joinedL_inj l m hl hm (sum_short _ _ h1 h2 (B_inj h))
/-- One-element lists of texts of one length of at most 9 bytes that agree in the first 6. -/
theorem listB_one (x y : ByteArray) (hxy : x.size = y.size) (h9 : x.size ≤ 9) (h6 : (L x).take 6 = (L y).take 6) (h : listB [x] = listB [y]) : x = y := by
  have h1 := B_inj h
  have e : ∀ z : ByteArray, z.size ≤ 9 → joined ([z].map L) = UInt8.ofNat (48 + z.size) :: 58 :: L z := by
    intro z hz
    have hd : dec z.size = [UInt8.ofNat (48 + z.size)] := by
      unfold dec
      rw [decF, if_pos (by omega)]
    simp [joined, len_L, hd]
  unfold list at h1
  rw [e x h9, e y (by omega), hxy] at h1
  have hlx := len_L x
  have hly := len_L y
  by_cases hs : x.size ≤ 6
  · rw [List.take_of_length_le (by omega), List.take_of_length_le (by omega)] at h6
    exact L_inj h6
  · have h2 := sum_block 1 _ _ (by simp only [List.length_cons]; unfold M; omega) (by simp only [List.length_cons]; omega) (by simp only [List.length_cons]; omega)
      (by rw [show 8 * 1 = 6 + 1 + 1 from rfl, List.take_succ_cons, List.take_succ_cons, List.take_succ_cons, List.take_succ_cons, h6])
      (by rw [List.drop_of_length_le (by simp only [List.length_cons]; omega), List.drop_of_length_le (by simp only [List.length_cons]; omega)]) h1
    simp only [List.cons.injEq, true_and] at h2
    exact L_inj h2
end Dg
end Go.Proofs.YtmmpndijfbbnnaaDoor
