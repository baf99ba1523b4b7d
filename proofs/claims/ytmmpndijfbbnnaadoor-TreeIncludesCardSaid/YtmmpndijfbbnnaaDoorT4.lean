import Derived.Test.YtmmpndijfbbnnaaDoorT3
import Derived.OneCell
namespace Go.Proofs.YtmmpndijfbbnnaaDoor
open Go Go.RowKit
def IV : Nat := 1442695040888963407
theorem iv_xor (n : Nat) (hn : n < Dg.M) : bits .xor .u64 (1442695040888963407 : Int) (n : Int) = ((IV ^^^ n : Nat) : Int) := xor_u64 IV n (by unfold IV Dg.M; omega) hn
structure SumRel (w : World) (s t : ByteArray) (st : Nat) (wr : World) : Prop where
  below : Below w.heap.size w wr
  blk : wr.heap[w.heap.size]? = some (.cells #[.int .u64 (st : Int)] 88 (0, 0))
  lt : st < Dg.M
  size : t.size ≤ s.size
  run : Dg.run ((Dg.L t).length / 8 + 1) st (Dg.L t) = Dg.state (Dg.L s)
def strLen : Value → Nat
  | .string s => s.size
  | _ => 0
theorem sumRel_start (w : World) (s : ByteArray) (hs : s.size ≤ 9223372036854775807) (x : Int) (hx : x = ((IV ^^^ s.size : Nat) : Int)) : SumRel w s s (IV ^^^ s.size) (w.alloc (.cells #[.int .u64 x] 88)) := by
  subst hx
  exact ⟨(Below.refl _ _).alloc (Nat.le_refl _) _, heap_alloc_new w _, Dg.xor_lt (by unfold IV Dg.M; omega) (by unfold Dg.M; omega), Nat.le_refl _, by rw [Dg.len_L]; unfold Dg.state; rw [Dg.len_L]; rfl⟩
theorem sumRel_lt {w : World} {s t : ByteArray} {st : Nat} {wr : World} (h : SumRel w s t st wr) : w.heap.size < wr.heap.size := lt_of_block h.blk
theorem sumRel_set {wr : World} {b st x : Nat} (h : wr.heap[b]? = some (.cells #[.int .u64 (st : Int)] 88 (0, 0))) (o : Obj) :
    ((wr.setCell ⟨b, 0, none⟩ (.int .u64 (x : Int))).alloc o).heap[b]? = some (.cells #[.int .u64 (x : Int)] 88 (0, 0)) := by
  rw [Below.heap_alloc _ _ _ (by have := lt_of_block h; simpa [World.setCell] using this)]
  exact one_setCell h
theorem sumRel_next {w : World} {s t : ByteArray} {st : Nat} {wr : World} (h : SumRel w s t st wr) (h8 : 8 ≤ t.size) (o : Obj) :
    SumRel w s (t.extract 8 t.size) (Dg.mix (st ^^^ Dg.blk (Dg.L (t.extract 0 8)))) ((wr.setCell ⟨w.heap.size, 0, none⟩ (.int .u64 (Dg.mix (st ^^^ Dg.blk (Dg.L (t.extract 0 8))) : Nat))).alloc o) := by
  have hl := Dg.len_L t
  have e1 : Dg.L (t.extract 8 t.size) = (Dg.L t).drop 8 := by rw [Dg.L_extract, List.take_of_length_le (by omega)]
  have e2 : Dg.blk (Dg.L (t.extract 0 8)) = Dg.blk (Dg.L t) := by rw [Dg.L_extract, List.drop_zero, Dg.blk_take]
  refine ⟨(h.below.setCell (Nat.le_refl _) _).alloc (by have := sumRel_lt h; simp [World.setCell]; omega) _, sumRel_set h.blk o, Dg.mix_lt _, ?_, ?_⟩
  · have := h.size
    rw [← Dg.len_L, e1, List.length_drop]; omega
  · rw [e1, e2, ← Dg.run_step _ _ (by omega)]
    exact h.run
theorem sumRel_last {w : World} {s t : ByteArray} {st : Nat} {wr : World} (h : SumRel w s t st wr) (h8 : ¬ 8 ≤ t.size) : Dg.mix (st ^^^ Dg.blk (Dg.L t)) = Dg.state (Dg.L s) := by
  rw [← h.run, Dg.len_L, show t.size / 8 = 0 by omega]
  rfl
def zero16 : Array Value := #[.int .u8 0, .int .u8 0, .int .u8 0, .int .u8 0, .int .u8 0, .int .u8 0, .int .u8 0, .int .u8 0, .int .u8 0, .int .u8 0, .int .u8 0, .int .u8 0, .int .u8 0, .int .u8 0, .int .u8 0, .int .u8 0]
theorem run_fill {P : Program} (w : World) (A C : Array Value) (T : TypeId) (hsz : A.size = C.size) (h1 : C.all (·.oneCell') = true) :
    (storeCells ⟨w.heap.size, 0, none⟩ C.toList).run P (w.alloc (.cells A T)) = .ok () (w.alloc (.cells C T)) := by
  have := run_storeCells_from (P := P) w.heap.size T C.toList 0 A (w.alloc (.cells A T)) (heap_alloc_new w _) (by simp; omega) (fun v hv => (Array.all_eq_true_iff_forall_mem.1 h1) v (by simpa using hv))
  rw [this]
  simp [setRow_new]
def outV (S k i : Nat) : Value := .int .u8 (if i < k then ((Dg.hexDigit (S / 16 ^ (15 - i) % 16)).toNat : Int) else 0)
def outCells (S k : Nat) : Array Value := #[outV S k 0, outV S k 1, outV S k 2, outV S k 3, outV S k 4, outV S k 5, outV S k 6, outV S k 7, outV S k 8, outV S k 9, outV S k 10, outV S k 11, outV S k 12, outV S k 13, outV S k 14, outV S k 15]
theorem outCells_size (S k : Nat) : (outCells S k).size = 16 := rfl
theorem outCells_zero (S : Nat) : outCells S 0 = zero16 := rfl
theorem outCells_set (S k : Nat) (hk : k < 16) : (outCells S k).setIfInBounds k (.int .u8 ((Dg.hexDigit (S / 16 ^ (15 - k) % 16)).toNat : Int)) = outCells S (k + 1) := by
  rcases lt16 hk with rfl | rfl | rfl | rfl | rfl | rfl | rfl | rfl | rfl | rfl | rfl | rfl | rfl | rfl | rfl | rfl <;> rfl
theorem outCells_get (S k i : Nat) (hi : i < 16) : (outCells S k)[i]? = some (outV S k i) := by
  rcases lt16 hi with rfl | rfl | rfl | rfl | rfl | rfl | rfl | rfl | rfl | rfl | rfl | rfl | rfl | rfl | rfl | rfl <;> rfl
theorem nib (S k : Nat) (hk : k < 16) (hS : S < Dg.M) : bits .and .u64 ((S : Int) / 2 ^ (60 - 4 * k)) 15 = ((S / 16 ^ (15 - k) % 16 : Nat) : Int) := by
  have e : (2 : Int) ^ (60 - 4 * k) = ((16 ^ (15 - k) : Nat) : Int) := by
    rw [show 60 - 4 * k = 4 * (15 - k) by omega, Int.pow_mul]
    exact (Int.natCast_pow 16 (15 - k)).symm
  have hlt : S / 16 ^ (15 - k) < 18446744073709551616 := Nat.lt_of_le_of_lt (Nat.div_le_self _ _) hS
  rw [e, ← Int.natCast_ediv]
  have := u64_and_nat (S / 16 ^ (15 - k)) 15 hlt (by omega)
  rw [show ((15 : Nat) : Int) = 15 from rfl] at this
  rw [this]
  congr 1
  exact Nat.and_two_pow_sub_one_eq_mod _ 4
theorem outCells_hex (S j : Nat) (hj : j < (Dg.hex S).length) : (outCells S 16)[j]? = some (.int .u8 (((Dg.hex S)[j]).toNat : Int)) := by
  have h16 : (Dg.hex S).length = 16 := Dg.hexTo_len S 16
  have h := Dg.hexTo_get S 16 j (by omega)
  have e : (Dg.hex S)[j] = Dg.hexDigit (S / 16 ^ (15 - j) % 16) := Option.some.inj ((List.getElem?_eq_getElem hj).symm.trans h)
  rw [e, outCells_get S 16 j (by omega)]
  unfold outV
  rw [if_pos (by omega)]
theorem run_out {P : Program} (w : World) (A : Array Value) (T : TypeId) (S : Nat) (src dst e : TypeId) (hs : P.underlying src = some (.slice e)) (he : P.underlying e = some (.int .u8)) (hd : P.underlying dst = some .string) :
    (convert src dst (.slice (some ⟨w.heap.size + 1, 0, none⟩) 16 16)).run P ((w.alloc (.cells A T)).alloc (.cells (outCells S 16) T)) = .ok (.string (Dg.B (Dg.hex S))) ((w.alloc (.cells A T)).alloc (.cells (outCells S 16) T)) := by
  have h16 : (Dg.hex S).length = 16 := Dg.hexTo_len S 16
  have := run_convert_bytes_back (P := P) ((w.alloc (.cells A T)).alloc (.cells (outCells S 16) T)) src dst e ⟨w.heap.size + 1, 0, none⟩ 16 (Dg.hex S) hs he hd (fun j hj => by
    have hadd : (⟨w.heap.size + 1, 0, none⟩ : Addr).add j = ⟨w.heap.size + 1, j, none⟩ := by unfold Addr.add; split <;> simp_all
    rw [hadd, cell_of_row _ _ _ _ _ _ (heap_alloc2_new w _ _), outCells_hex S j hj])
  rw [h16] at this
  exact this
set_option maxHeartbeats 1000000 in
theorem sum_any (s : ByteArray) (hs : s.size ≤ 9223372036854775807) (w : World) :
    Calls Tryd.prog 83 #[.string s] w fun e w' => e = .returned (.string (Dg.sumB s)) ∧ Below w.heap.size w w' := by
  have h0 := hide (iv_xor s.size (by unfold Dg.M; omega))
  go_enter Tryd.func83, Tryd.ntmps83
  go_wp2
  go_loopw [0] (fun v wr => ∃ (t : ByteArray) (st : Nat), v = .string t ∧ SumRel w s t st wr) (fun v _ => strLen v)
  case atStart => exact ⟨s, _, rfl, sumRel_start w s hs _ h0.out⟩
  case round =>
    obtain ⟨t, st, rfl, hrel⟩ := hrel
    have hz := hrel.size
    have hlt := sumRel_lt hrel
    by_cases h8 : 8 ≤ t.size
    · go_wp2_with fail
      refine (take_any (t.extract 0 8) (by rw [← Dg.len_L, Dg.L_extract]; simp only [List.drop_zero, List.length_take]; omega) st hrel.lt w.heap.size _ hlt (cell_of_one hrel.blk) (free_of_one hrel.blk)).mono ?_
      rintro e w' ⟨rfl, o, rfl⟩
      have hn := sumRel_next hrel h8 o
      go_wp2
      go_roundw
      case rel => exact ⟨_, _, rfl, hn⟩
      case measure => simp only [strLen]; rw [← Dg.len_L, Dg.L_extract, List.length_drop, List.length_take, Dg.len_L]; omega
    · go_wp2_with fail
      refine (take_any t (by omega) st hrel.lt w.heap.size _ hlt (cell_of_one hrel.blk) (free_of_one hrel.blk)).mono ?_
      rintro e w' ⟨rfl, o, rfl⟩
      obtain ⟨W, hW⟩ : ∃ W, W = (wr.setCell ⟨w.heap.size, 0, none⟩ (.int .u64 (Dg.mix (st ^^^ Dg.blk (Dg.L t)) : Nat))).alloc o := ⟨_, rfl⟩
      have hb1 : Below w.heap.size w W := by subst hW; exact (hrel.below.setCell (Nat.le_refl _) _).alloc (by simp [World.setCell]; omega) _
      have hk1 : W.heap[w.heap.size]? = some (.cells #[.int .u64 ((Dg.state (Dg.L s) : Nat) : Int)] 88 (0, 0)) := by
        subst hW; rw [← sumRel_last hrel h8]; exact sumRel_set hrel.blk o
      rw [← hW]
      clear hW hrel hlt hz h8
      have hst := Dg.state_lt (Dg.L s)
      generalize hS : Dg.state (Dg.L s) = S at *
      have HS := hide hS; clear hS
      go_wp2_with fail
      refine (digits_any _).mono ?_
      rintro e w2 ⟨rfl, hb2⟩
      have hb3 := hb1.trans (hb2.mono (by have := lt_of_block hk1; omega))
      have hk3 : w2.heap[w.heap.size]? = some (.cells #[.int .u64 (S : Int)] 88 (0, 0)) := by rw [hb2.block _ (lt_of_block hk1)]; exact hk1
      have hlt3 := lt_of_block hk3
      clear hk1 hb1 hb2
      have hfill := run_fill (P := Tryd.prog) w2 zero16 (digCells 16) 114 rfl digCells_one
      unfold zero16 at hfill
      go_wp2
      clear hfill
      go_loopw [7, 26] (fun _ i wr => ∃ k : Nat, k ≤ 16 ∧ i = .int .i64 k ∧ wr = (w2.alloc (.cells (digCells 16) 114)).alloc (.cells (outCells S k) 114)) (fun _ i _ => 16 - (intOf i).toNat)
      case atStart => exact ⟨0, by omega, rfl, rfl⟩
      case round =>
        obtain ⟨k, hk, rfl, rfl⟩ := hrel
        have hc3 := cell_of_one hk3
        by_cases hlt : k < 16
        · have hcell := outCells_get S k k hlt
          have hsz := outCells_size S k
          unfold outV at hcell
          rw [if_neg (by omega)] at hcell
          have hset := outCells_set S k hlt
          have hidx := nib S k hlt hst
          have hd : S / 16 ^ (15 - k) % 16 < 16 := Nat.mod_lt _ (by omega)
          generalize S / 16 ^ (15 - k) % 16 = d at *
          have hdc := digCells_get 16 d hd
          unfold digV at hdc
          rw [if_pos hd] at hdc
          have hdc' : ∀ h : d < (digCells 16).size, (digCells 16)[d] = .int .u8 ((Dg.hexDigit d).toNat : Int) := fun h => Option.some.inj ((Array.getElem?_eq_getElem h).symm.trans hdc)
          have HSET := hide hset; clear hset
          go_wp2
          go_roundw
          case rel => exact ⟨k + 1, by omega, by go_num, by rw [HSET.out]⟩
          case measure => simp [intOf]; omega
        · obtain rfl : k = 16 := by omega
          have hconv := run_out (P := Tryd.prog) w2 (digCells 16) 114 S 91 9 5 (by kernel_rfl) (by kernel_rfl) (by kernel_rfl)
          generalize outCells S 16 = OC at *
          go_wp2
          go_ret
          refine ⟨ret_str ?_, (hb3.alloc (by omega) _).alloc (by simp; omega) _⟩
          rw [← HS.out]; rfl
end Go.Proofs.YtmmpndijfbbnnaaDoor
