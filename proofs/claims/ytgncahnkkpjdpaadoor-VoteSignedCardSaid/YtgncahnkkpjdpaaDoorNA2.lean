/- Walks and laws of this seat, several texts in one: Path, Link, RLen, RUp, RDig, Proper, Proof, Check, Check2, Ext, Ext2, RPath, RLink, S1, S3, S4, RCheck, RExt, Texts, S2, Round, RegL, OwnM, AppW, App2, S5. No conditions but those that each theorem states. -/
import Derived.Test.YtgncahnkkpjdpaaDoorNA1
import Derived.StillTailTactics
import Derived.Deep.RegionWith
import Derived.Deep.DeepCutAuto
import Derived.Laws.EntriesVeiled
import Derived.Deep.RegionHeld3
import Derived.IntWalk
import Derived.RangeFuncBox
import Derived.RangeFuncLeaves
import Derived.RangeFuncWrites
import Derived.OwnWalkIn
import Derived.TacticsInMore
import Derived.LoopNIn
import Derived.LoopIn
import Derived.OrdersIn
import Derived.RangeFuncCalls
import Derived.Deep.RegionHeld
import Derived.Shelf.RegionOpen
/- Path of package tree. -/
namespace Go.Proofs.YtgncahnkkpjdpaaDoor
open Go Go.RowKit Go.Sort
def lenV : Value → Nat
  | .slice _ n _ => n
  | _ => 0
set_option maxRecDepth 100000 in
set_option maxHeartbeats 1000000 in
theorem path_any (A0 : Option Addr) (c0 n0 : Nat) (l0 : List ByteArray) (i0 : Nat) (w : World) (hn0 : l0.length = n0) (he : Env w) (hc0 : n0 ≤ c0) (hl0 : n0 ≤ 1048576) (hs0 : ∀ s ∈ l0, s.size ≤ 1073741824) (hS0 : Strs w w.heap.size A0 l0) (hi : i0 < n0) :
    Calls Tryd.prog 35 #[.slice A0 n0 c0, .int .i64 i0] w fun e w' => ∃ A c n, e = .returned (.tuple #[.slice A n c, .int .i64 0]) ∧ (Dg.path l0 i0).length = n ∧ n ≤ c ∧ Strs w' w'.heap.size A (Dg.path l0 i0) ∧ Below w.heap.size w w' := by
  go_enter Tryd.func35, Tryd.ntmps35
  have hs0' := hide hs0; clear hs0
  have k1 : ¬ (n0 ≤ i0) := by omega
  have k2 : ¬ ((i0 : Int) < 0) := by omega
  have k3 : ¬ ((n0 : Int) ≤ (i0 : Int)) := by omega
  go_wp2
  go_loopw [0, 1, 6] (fun lv iv ov wr => ∃ (A : Option Addr) (c n i : Nat) (l out : List ByteArray), lv = .slice A n c ∧ iv = .int .i64 i ∧ l.length = n ∧ n ≤ c ∧ i < n ∧ n ≤ 1048576 ∧ Hid (∀ s ∈ l, s.size ≤ 1073741824) ∧ Strs wr w.heap.size A l ∧ OwnS wr w.heap.size ov out ∧
    Hid (Dg.path l0 i0 = Dg.path l i ++ out.reverse) ∧ out.length + n ≤ l0.length ∧ Below w.heap.size w wr) (fun lv _ _ _ => lenV lv)
  case atStart => exact ⟨A0, c0, n0, i0, l0, [], rfl, rfl, hn0, hc0, hi, hl0, hs0', hS0, OwnS.nil _ _, by unfold Hid; simp, by simp; omega, Below.refl _ _⟩
  case round =>
    obtain ⟨A, c, n, i, l, out, rfl, rfl, hln, hc, hin, hn, hs, hS, hO, hp, hlen, hb⟩ := hrel
    have hew := he.next hb
    by_cases h1 : 1 < n
    · have g1 := Dg.half_pos n
      have g2 := Dg.half_lt n (by omega)
      have pf := hide (fun h => Dg.path_fst l i (by omega) h)
      have ps := hide (fun h => Dg.path_snd l i (by omega) h)
      rw [hln] at pf ps
      have i1 := hide (fun (W : World) (hE : Env W) (hST : Strs W W.heap.size A (l.take (Dg.half n))) => root_of (Dg.half n) A c (l.take (Dg.half n)) _ W (by rw [List.length_take]; omega) rfl hE (by omega) (by omega) (fun s hs' => hs.out s (List.mem_of_mem_take hs')) hST)
      have i2 := hide (fun (W : World) (hE : Env W) (hST : Strs W W.heap.size (offA A (Dg.half n) c) (l.drop (Dg.half n))) => root_of (n - Dg.half n) (offA A (Dg.half n) c) (c - Dg.half n) (l.drop (Dg.half n)) _ W (by rw [List.length_drop, hln]) rfl hE (by omega) (by omega) (fun s hs' => hs.out s (List.mem_of_mem_drop hs')) hST)
      have e1 := hide (show (l.take (Dg.half n)).length = Dg.half n by rw [List.length_take]; omega)
      have e2 := hide (show (l.drop (Dg.half n)).length = n - Dg.half n by rw [List.length_drop]; omega)
      have z1 := root_size (l.take (Dg.half n))
      have z2 := root_size (l.drop (Dg.half n))
      have m1 := hide (fun s hs' => hs.out s (List.mem_of_mem_take (i := Dg.half n) hs'))
      have m2 := hide (fun s hs' => hs.out s (List.mem_of_mem_drop (i := Dg.half n) hs'))
      have hS1 := hS.take (Dg.half n)
      have hS2 := hS.drop (c := c) (by omega) (Dg.half n)
      go_wp2_with fail
      refine (half_any n (by omega) _).mono ?_
      rintro e w1 ⟨rfl, rfl⟩
      generalize Dg.half n = m at *
      generalize hX : Dg.root (l.take m) = X at *
      generalize hY : Dg.root (l.drop m) = Y at *
      clear hX hY
      have s1 := slice_to A n c m (by omega)
      have s2 := slice_from A n c m (by omega)
      have hsz := hb.size
      by_cases him : i < m
      · go_wp2_with fail
        refine (i2.out _ hew (hS2.more hsz)).mono ?_
        rintro e w1 ⟨rfl, hb1⟩
        have hb2 := bnext hb hb1
        have hO1 := hO.below hb1
        have hS11 := hS1.below (hb1.mono hsz)
        have hz1 := hb1.size
        go_wp2_with (at_builtin; refine step_s w1 rfl (.tmp 25) (.tmp 30) rfl Y w.heap.size _ out rfl hO1 rfl (by omega) (by omega) ?_; intro v' w2 hO2 hb3)
        have hb4 := hb2.trans hb3
        go_roundw
        case rel => exact ⟨A, c, m, i, l.take m, out ++ [Y], rfl, rfl, e1.out, by omega, him, by omega, m1, hS11.below hb3, hO2, by unfold Hid; rw [hp.out, pf.out him, List.append_assoc, List.reverse_append]; rfl, by rw [List.length_append, List.length_singleton]; omega, hb4⟩
        case measure => simp [lenV]; omega
      · go_wp2_with fail
        refine (i1.out _ hew (hS1.more hsz)).mono ?_
        rintro e w1 ⟨rfl, hb1⟩
        have hb2 := bnext hb hb1
        have hO1 := hO.below hb1
        have hS21 := hS2.below (hb1.mono hsz)
        have hz1 := hb1.size
        go_wp2_with (at_builtin; refine step_s w1 rfl (.tmp 35) (.tmp 40) rfl X w.heap.size _ out rfl hO1 rfl (by omega) (by omega) ?_; intro v' w2 hO2 hb3)
        have hb4 := hb2.trans hb3
        go_roundw
        case rel => exact ⟨offA A m c, c - m, n - m, i - m, l.drop m, out ++ [X], rfl, by go_num, e2.out, by omega, by omega, by omega, m2, hS21.below hb3, hO2, by unfold Hid; rw [hp.out, ps.out him, List.append_assoc, List.reverse_append]; rfl, by rw [List.length_append, List.length_singleton]; omega, hb4⟩
        case measure => simp [lenV]; omega
    · go_wp2_with fail
      have hsz := hb.size
      refine (reverse_any w.heap.size _ out _ hO hsz (by omega)).mono ?_
      rintro e w1 ⟨rfl, ⟨A1, c1, rfl, hc1, hS1⟩, hb1⟩
      go_wp2
      go_ret2
      have hp1 := hp.out
      rw [Dg.path_short l i (by omega), List.nil_append] at hp1
      rw [hp1]
      exact ⟨_, _, _, rfl, by rw [List.length_reverse], by omega, hS1, hb.trans hb1⟩
set_option maxHeartbeats 400000 in
theorem path_bad (A0 : Option Addr) (c0 n0 : Nat) (i0 : Int) (w : World) (hi : i0 < 0 ∨ n0 ≤ i0) :
    Calls Tryd.prog 35 #[.slice A0 n0 c0, .int .i64 i0] w fun e w' => e = .returned (.tuple #[.slice none 0 0, .int .i64 1]) ∧ w = w' := by
  go_enter Tryd.func35, Tryd.ntmps35
  by_cases k2 : i0 < 0
  · go_wp2
    go_ret2
    exact ⟨rfl, rfl⟩
  · have k1 : (n0 : Int) ≤ i0 := by omega
    go_wp2
    go_ret2
    exact ⟨rfl, rfl⟩
end Go.Proofs.YtgncahnkkpjdpaaDoor
/- Link of package tree. -/
namespace Go.Proofs.YtgncahnkkpjdpaaDoor
open Go Go.RowKit Go.Sort
end Go.Proofs.YtgncahnkkpjdpaaDoor
/- length of the reference: how long a path is. -/
namespace Go.Proofs.YtgncahnkkpjdpaaDoor
open Go Go.RowKit Go.Sort
theorem length_le (n i : Nat) : Dg.length n i ≤ n := by
  unfold Dg.length
  suffices h : ∀ f n i, Dg.lengthF f n i ≤ f from h n n i
  intro f
  induction f with
  | zero => intro n i; exact Nat.le_refl _
  | succ f ih =>
    intro n i
    rw [Dg.lengthF]
    have h1 := ih (Dg.half n) i
    have h2 := ih (n - Dg.half n) (i - Dg.half n)
    split
    · omega
    · split <;> omega
end Go.Proofs.YtgncahnkkpjdpaaDoor
/- up and digests of the reference. -/
namespace Go.Proofs.YtgncahnkkpjdpaaDoor
open Go Go.RowKit Go.Sort
theorem rev_tail (p : List ByteArray) : p.reverse.tail = (p.take (p.length - 1)).reverse := by
  rw [List.tail_reverse, List.dropLast_eq_take]
theorem rev_head (p : List ByteArray) (h : p.length - 1 < p.length) : p.reverse.headD ⟨#[]⟩ = p[p.length - 1] := by
  rw [List.headD_eq_head?_getD, List.head?_reverse, List.getLast?_eq_getElem?, List.getElem?_eq_getElem h]
  rfl
theorem up_size (n : Nat) : ∀ (i : Nat) (d : ByteArray) (r : List ByteArray), d.size ≤ 1048576 → (Dg.up n i d r).size ≤ 1048576 := by
  induction n using Nat.strongRecOn with
  | _ n ih =>
  intro i d r hd
  by_cases h1 : n ≤ 1
  · rw [Dg.up_one _ _ _ _ h1]; exact hd
  · by_cases hi : i < Dg.half n
    · rw [Dg.up_fst _ _ _ _ (by omega) hi, Dg.nodeB, listB_size]; decide
    · rw [Dg.up_snd _ _ _ _ (by omega) hi, Dg.nodeB, listB_size]; decide
end Go.Proofs.YtgncahnkkpjdpaaDoor
/- digests of the reference. -/
namespace Go.Proofs.YtgncahnkkpjdpaaDoor
open Go Go.RowKit Go.Sort
def allDig (l : List ByteArray) : Bool := l.all Dg.isB
theorem allDig_no (l : List ByteArray) (x : ByteArray) (h : x ∈ l) (hx : Dg.isB x = false) : allDig l = false := by
  unfold allDig
  rw [List.all_eq_false]
  exact ⟨x, h, by rw [hx]; decide⟩
theorem allDig_yes (l : List ByteArray) (h : ∀ x ∈ l, Dg.isB x = true) : allDig l = true := List.all_eq_true.2 h
theorem ris_of (s : ByteArray) (r : Bool) (hr : Dg.isB s = r) (hs : s.size ≤ 4611686018427387904) (w : World) :
    Calls Tryd.prog 48 #[.string s] w fun e w' => e = .returned (.bool r) ∧ Below w.heap.size w w' := by
  subst hr
  exact (ris_any s hs w).mono fun e w' ⟨h1, h2⟩ => ⟨h1, by subst h2; exact Below.refl _ _⟩
end Go.Proofs.YtgncahnkkpjdpaaDoor
/- slices.Clone of strings; all are digests: slices.ContainsFunc at tree.digests, walked. -/
namespace Go.Proofs.YtgncahnkkpjdpaaDoor
open Go Go.RowKit Go.Sort
theorem clone_any (A : Option Addr) (n c : Nat) (l : List ByteArray) (w : World) (hn : l.length = n) (hb : n ≤ 1099511627776) (hS : Strs w w.heap.size A l) :
    Calls Tryd.prog 63 #[.slice A n c] w fun e w' => ∃ v', e = .returned v' ∧ OwnS w' w.heap.size v' l ∧ Below w.heap.size w w' := by
  subst hn
  have nilS : ∀ W, OwnS W w.heap.size (.slice none 0 0) [] := fun W => OwnS.nil _ _
  by_cases h0 : l.length = 0
  · obtain rfl : l = [] := List.length_eq_zero_iff.1 h0
    cases A with
    | none =>
      refine (Tryd.slices_Clone_string_nil 0 c w).mono ?_
      rintro e w' ⟨rfl, rfl⟩
      exact ⟨_, rfl, nilS _, Below.refl _ _⟩
    | some a =>
      refine (Tryd.slices_Clone_string_zero a c w).mono ?_
      rintro e w' ⟨v', rfl, ho, _, hB⟩
      exact ⟨v', rfl, ho, hB⟩
  · obtain ⟨b, off, rfl, hbl, hcell⟩ := hS.at_ (by omega)
    refine (Tryd.slices_Clone_string b off l.length c l w (Nat.le_refl _) (by omega) (fun j hj => ?_)).mono ?_
    · rw [hcell j l[j] (List.getElem?_eq_getElem hj), List.getD_eq_getElem?_getD, List.getElem?_eq_getElem hj]; rfl
    · rintro e w' ⟨v', rfl, ho, _, hB⟩
      refine ⟨v', rfl, ?_, hB⟩
      rw [List.take_length] at ho
      unfold OwnS OwnV
      rw [List.length_map]
      exact ho
theorem bnot_of {a b : Bool} (h : a = b) : (!a) = !b := by rw [h]
theorem notdig_any (s : ByteArray) (r : Bool) (hr : Dg.isB s = r) (hs : s.size ≤ 4611686018427387904) (w : World) :
    Calls Tryd.prog 83 #[.string s] w fun e w' => e = .returned (.bool (!r)) ∧ Below w.heap.size w w' := by
  go_enter Tryd.func83, Tryd.ntmps83
  go_wp2_with fail
  refine (is_of s r hr hs w).mono ?_
  rintro e w1 ⟨rfl, hb⟩
  clear hr
  go_wp2
  go_ret
  exact ⟨rfl, hb⟩
/-- Where the first string lies that is no digest; -1. -/
def idxBad (l : List ByteArray) (k : Nat) (R : Int) : Prop := (R = -1 ∧ ∀ s ∈ l, Dg.isB s = true) ∨ (0 ≤ R ∧ R = k ∧ ∃ s ∈ l, Dg.isB s = false)
set_option maxHeartbeats 400000 in
theorem index_any (A : Option Addr) (c n : Nat) (l : List ByteArray) (R : Bool) (hR : allDig l = R) (w : World) (hl : l.length = n) (hn : n ≤ 1099511627776) (hs : ∀ s ∈ l, s.size ≤ 4611686018427387904) (hr : Strs w w.heap.size A l) :
    Calls Tryd.prog 95 #[.slice A n c, .func (.func 83) #[] #[]] w fun e w' => (∃ k : Int, e = .returned (.int .i64 k) ∧ decide (k ≥ 0) = !R) ∧ Below w.heap.size w w' := by
  subst hl
  have HR := hide hR; clear hR
  go_enter Tryd.func95, Tryd.ntmps95
  go_wp2
  go_loopw [8] (fun i wr => ∃ k : Nat, k ≤ l.length ∧ i = .int .i64 k ∧ Below w.heap.size w wr ∧ Hid (∀ s ∈ l.take k, Dg.isB s = true)) (fun i _ => l.length - (intOf i).toNat)
  case atStart => exact ⟨0, by omega, rfl, Below.refl _ _, by unfold Hid; simp⟩
  case round =>
    obtain ⟨k, hk, rfl, hb, hall⟩ := hrel
    by_cases hlt : k < l.length
    · obtain ⟨b, off, rfl, hbl, hcell⟩ := (hr.below hb).get hlt
      have hsz := hs l[k] (List.getElem_mem hlt)
      have hts := hide (List.take_succ_eq_append_getElem hlt)
      have hm := hide (List.getElem_mem hlt)
      generalize l[k] = x at *
      go_wp2_with fail
      cases hx : Dg.isB x with
      | true =>
        refine (notdig_any x true hx hsz _).mono ?_
        rintro e w1 ⟨rfl, hb1⟩
        have hb2 := bnext hb hb1
        have hx' := hide hx; clear hx
        go_wp2
        go_roundw
        case rel =>
          refine ⟨k + 1, by omega, by go_num, hb2, ?_⟩
          unfold Hid
          rw [hts.out]
          intro s hs'
          rcases List.mem_append.1 hs' with h | h
          · exact hall.out s h
          · obtain rfl : s = x := by simpa using h
            exact hx'.out
        case measure => simp [intOf]; omega
      | false =>
        refine (notdig_any x false hx hsz _).mono ?_
        rintro e w1 ⟨rfl, hb1⟩
        have hb2 := bnext hb hb1
        have hx' := hide hx; clear hx
        go_wp2
        go_ret
        have := (allDig_no l x hm.out hx'.out).symm.trans HR.out
        subst this
        exact ⟨⟨_, rfl, by simp⟩, hb2⟩
    · obtain rfl : k = l.length := by omega
      go_wp2
      go_ret
      have h := hall.out
      rw [List.take_length] at h
      have := (allDig_yes l h).symm.trans HR.out
      subst this
      exact ⟨⟨_, rfl, by simp⟩, hb⟩
theorem contains_any (A : Option Addr) (c n : Nat) (l : List ByteArray) (R : Bool) (hR : allDig l = R) (w : World) (hl : l.length = n) (hn : n ≤ 1099511627776) (hs : ∀ s ∈ l, s.size ≤ 4611686018427387904) (hr : Strs w w.heap.size A l) :
    Calls Tryd.prog 82 #[.slice A n c, .func (.func 83) #[] #[]] w fun e w' => e = .returned (.bool (!R)) ∧ Below w.heap.size w w' := by
  go_enter Tryd.func82, Tryd.ntmps82
  go_wp2_with fail
  refine (index_any A c n l R hR w hl hn hs hr).mono ?_
  rintro e w1 ⟨⟨k, rfl, hk⟩, hb⟩
  have hk' := hide hk; clear hk hR
  go_wp2
  go_ret
  exact ⟨ret_bool (by have := hk'.out; simpa using this), hb⟩
theorem proper_any (A : Option Addr) (c n : Nat) (l : List ByteArray) (R : Bool) (hR : allDig l = R) (w : World) (hl : l.length = n) (hn : n ≤ 1099511627776) (hs : ∀ s ∈ l, s.size ≤ 4611686018427387904) (hr : Strs w w.heap.size A l) :
    Calls Tryd.prog 64 #[.slice A n c] w fun e w' => e = .returned (.bool R) ∧ Below w.heap.size w w' := by
  go_enter Tryd.func64, Tryd.ntmps64
  go_wp2_with fail
  refine (contains_any A c n l R hR w hl hn hs hr).mono ?_
  rintro e w1 ⟨rfl, hb⟩
  clear hR
  go_wp2
  go_ret
  exact ⟨ret_bool (by simp), hb⟩
end Go.Proofs.YtgncahnkkpjdpaaDoor
/- pop, next and done of package tree: a proof that is used up from its end. -/
namespace Go.Proofs.YtgncahnkkpjdpaaDoor
open Go Go.RowKit Go.Sort
theorem und_dig : Tryd.prog.underlying 95 = some (.slice (Tryd.prog.elem 95)) := by rw [show Tryd.prog.elem 95 = 9 by kernel_rfl]; exact Tryd.underlying95
theorem slice_toD (A : Option Addr) (n c k : Nat) (h : k ≤ c) (w : World) : (Instr.slice 95 (.slice A n c) none (some (.int .i64 (k : Int))) none).run Tryd.prog w = .ok (.slice A k c) w := by
  rw [run_slice_h w _ A n c und_dig .i64 k (by omega) (by omega), show Tryd.prog.elem 95 = 9 by kernel_rfl, Tryd.sizeOf9]
  show Result.ok (sliced A 0 (k : Int).toNat c 1) w = _
  unfold sliced
  rw [Int.toNat_natCast, Nat.zero_mul, Nat.sub_zero, Nat.sub_zero]
  have : (if c = 0 then A else A.map (fun x => x.add 0)) = A := by
    split
    · rfl
    · cases A with
      | none => rfl
      | some a => rw [Option.map_some, addr_add0]
  rw [this]
set_option maxHeartbeats 400000 in
theorem pop_zero (bl : Nat) (A : Option Addr) (c : Nat) (w : World) (hc : w.cell? ⟨bl, 0, none⟩ = some (.slice A 0 c)) :
    Calls Tryd.prog 84 #[.pointer (some ⟨bl, 0, none⟩)] w fun e w' => e = .returned (.string ⟨#[]⟩) ∧ w = w' := by
  go_enter Tryd.func84, Tryd.ntmps84
  go_wp2
  go_ret
  exact ⟨rfl, rfl⟩
set_option maxHeartbeats 1000000 in
theorem pop_more (bl : Nat) (b off c j : Nat) (d : ByteArray) (w : World) (hj : j ≤ 1099511627776) (hjc : j ≤ c) (hc : w.cell? ⟨bl, 0, none⟩ = some (.slice (some ⟨b, off, none⟩) (j + 1) c)) (hf : w.frozen? ⟨bl, 0, none⟩ = false) (hd : w.cell? ⟨b, off + j, none⟩ = some (.string d)) :
    Calls Tryd.prog 84 #[.pointer (some ⟨bl, 0, none⟩)] w fun e w' => e = .returned (.string d) ∧ ∃ q, w' = (w.setCell ⟨bl, 0, none⟩ (.slice (some ⟨b, off, none⟩) j c)).drewN q := by
  have s1 := slice_toD (some ⟨b, off, none⟩) (j + 1) c j hjc
  go_enter Tryd.func84, Tryd.ntmps84
  go_wp2_with fail
  go_quiet (fail)
  go_wp2_with fail
  generalize hW : w.drewN nq = W at *
  have hc' : W.cell? ⟨bl, 0, none⟩ = some (.slice (some ⟨b, off, none⟩) (j + 1) c) := by rw [← hW]; exact hc
  have hf' : W.frozen? ⟨bl, 0, none⟩ = false := by rw [← hW]; exact hf
  have HW := hide hW; clear hW hc hf hd
  go_region
  all_goals go_wp2_with fail
  all_goals go_ret
  all_goals exact ⟨rfl, nq + 1, by rw [← HW.out]; rfl⟩
/-- The cells of a proof that is under way: l lies at block bl, the proof at block bp. -/
structure PSt (w : World) (bl bp : Nat) (A : Option Addr) (c n : Nat) (sh : Bool) : Prop where
  l : w.cell? ⟨bl, 0, none⟩ = some (.slice A n c)
  lf : w.frozen? ⟨bl, 0, none⟩ = false
  p0 : w.cell? ⟨bp, 0, none⟩ = some (.pointer (some ⟨bl, 0, none⟩))
  p1 : w.cell? ⟨bp, 1, none⟩ = some (.bool sh)
  pf : w.frozen? ⟨bp, 1, none⟩ = false
theorem PSt.below {w w' : World} {bl bp : Nat} {A : Option Addr} {c n : Nat} {sh : Bool} (h : PSt w bl bp A c n sh) (hl : bl < w.heap.size) (hp : bp < w.heap.size) (hb : Below w.heap.size w w') : PSt w' bl bp A c n sh :=
  ⟨(hb.cell (p := ⟨bl, 0, none⟩) hl).trans h.l, (hb.frozen (p := ⟨bl, 0, none⟩) hl).trans h.lf, (hb.cell (p := ⟨bp, 0, none⟩) hp).trans h.p0, (hb.cell (p := ⟨bp, 1, none⟩) hp).trans h.p1, (hb.frozen (p := ⟨bp, 1, none⟩) hp).trans h.pf⟩
theorem cell_other {w : World} {b b' o o' : Nat} (v : Value) (h : b ≠ b' ∨ o ≠ o') : (w.setCell ⟨b, o, none⟩ v).cell? ⟨b', o', none⟩ = w.cell? ⟨b', o', none⟩ := by
  refine World.cell?_setCell_other _ _ _ _ ?_
  rintro e
  injection e with h1 h2
  omega
theorem PSt.setL {w : World} {bl bp : Nat} {A : Option Addr} {c n : Nat} {sh : Bool} (h : PSt w bl bp A c n sh) (hne : bl ≠ bp) (m : Nat) (q : Nat) : PSt ((w.setCell ⟨bl, 0, none⟩ (.slice A m c)).drewN q) bl bp A c m sh :=
  ⟨World.cell?_setCell_same' _ _ _ (by rw [h.l]; rfl), (World.frozen?_setCell _ _ _ _).trans h.lf, (cell_other _ (Or.inl hne)).trans h.p0, (cell_other _ (Or.inl hne)).trans h.p1, (World.frozen?_setCell _ _ _ _).trans h.pf⟩
theorem PSt.setP {w : World} {bl bp : Nat} {A : Option Addr} {c n : Nat} {sh : Bool} (h : PSt w bl bp A c n sh) (hne : bl ≠ bp) (s : Bool) : PSt (w.setCell ⟨bp, 1, none⟩ (.bool s)) bl bp A c n s :=
  ⟨(cell_other _ (Or.inl (Ne.symm hne))).trans h.l, (World.frozen?_setCell _ _ _ _).trans h.lf, (cell_other _ (Or.inr (by decide))).trans h.p0, World.cell?_setCell_same' _ _ _ (by rw [h.p1]; rfl), (World.frozen?_setCell _ _ _ _).trans h.pf⟩
/-- Blocks bl and bp alone have been written. -/
structure Mut (bl bp : Nat) (w w' : World) : Prop where
  os : w'.os = w.os
  tape : w'.tape = w.tape
  output : w'.output = w.output
  size : w.heap.size ≤ w'.heap.size
  block : ∀ k, k < w.heap.size → k ≠ bl → k ≠ bp → w'.heap[k]? = w.heap[k]?
theorem Mut.refl (bl bp : Nat) (w : World) : Mut bl bp w w := ⟨rfl, rfl, rfl, Nat.le_refl _, fun _ _ _ _ => rfl⟩
theorem Mut.trans {bl bp : Nat} {a b c : World} (h : Mut bl bp a b) (k : Mut bl bp b c) : Mut bl bp a c :=
  ⟨k.os.trans h.os, k.tape.trans h.tape, k.output.trans h.output, Nat.le_trans h.size k.size, fun i hi h1 h2 => (k.block i (Nat.lt_of_lt_of_le hi h.size) h1 h2).trans (h.block i hi h1 h2)⟩
theorem Mut.below {bl bp : Nat} {a b : World} (h : Below a.heap.size a b) : Mut bl bp a b := ⟨h.os, h.tape, h.output, h.size, fun i hi _ _ => h.block i hi⟩
theorem Mut.next {bl bp : Nat} {a b c : World} (h : Mut bl bp a b) (k : Below b.heap.size b c) : Mut bl bp a c := h.trans (Mut.below k)
theorem Mut.setCell {bl bp : Nat} {a b : World} (h : Mut bl bp a b) (q : Addr) (hq : q.block = bl ∨ q.block = bp) (v : Value) : Mut bl bp a (b.setCell q v) :=
  h.trans ⟨rfl, rfl, rfl, by simp [World.setCell], fun k _ h1 h2 => Below.heap_setCell _ _ _ _ (by rintro rfl; rcases hq with e | e; exact h1 e; exact h2 e)⟩
theorem Mut.drewN {bl bp : Nat} {a b : World} (h : Mut bl bp a b) (q : Nat) : Mut bl bp a (b.drewN q) := ⟨h.os, h.tape, h.output, h.size, h.block⟩
theorem Mut.toBelow {bl bp B : Nat} {a b : World} (h : Mut bl bp a b) (h1 : B ≤ bl) (h2 : B ≤ bp) (h3 : B ≤ a.heap.size) : Below B a b := ⟨h.os, h.tape, h.output, h.size, fun k hk => h.block k (by omega) (by omega) (by omega)⟩
theorem Mut.cell {bl bp : Nat} {a b : World} (h : Mut bl bp a b) {p : Addr} (hp : p.block < a.heap.size) (h1 : p.block ≠ bl) (h2 : p.block ≠ bp) : b.cell? p = a.cell? p := World.cell?_of_block (w := a) (h.block p.block hp h1 h2)
theorem emp_ne {d : ByteArray} (h : d.size = 16) : (d.toList == ([] : List UInt8)) = false := by
  have : d ≠ ⟨#[]⟩ := fun e => by rw [e] at h; exact absurd h (by decide)
  have h2 := tl_false (b := ⟨#[]⟩) this
  rwa [show (⟨#[]⟩ : ByteArray).toList = [] by kernel_rfl] at h2
set_option maxHeartbeats 400000 in
theorem next_zero (bl bp : Nat) (A : Option Addr) (c : Nat) (sh : Bool) (w : World) (h : PSt w bl bp A c 0 sh) (hne : bl ≠ bp) :
    Calls Tryd.prog 66 #[.pointer (some ⟨bp, 0, none⟩)] w fun e w' => e = .returned (.string ⟨#[]⟩) ∧ PSt w' bl bp A c 0 true ∧ Mut bl bp w w' := by
  have H := hide h
  obtain ⟨h1, h2, h3, h4, h5⟩ := h
  go_enter Tryd.func66, Tryd.ntmps66
  go_wp2_with fail
  refine (pop_zero bl A c w h1).mono ?_
  rintro e w1 ⟨rfl, rfl⟩
  cases sh with
  | true =>
    go_wp2
    go_ret
    exact ⟨rfl, H.out.setP hne true, (Mut.refl _ _ _).setCell ⟨bp, 1, none⟩ (Or.inr rfl) _⟩
  | false =>
    go_wp2
    go_ret
    exact ⟨rfl, H.out.setP hne true, (Mut.refl _ _ _).setCell ⟨bp, 1, none⟩ (Or.inr rfl) _⟩
set_option maxHeartbeats 400000 in
theorem next_more (bl bp b off c j : Nat) (sh : Bool) (d : ByteArray) (w : World) (h : PSt w bl bp (some ⟨b, off, none⟩) c (j + 1) sh) (hne : bl ≠ bp) (hj : j ≤ 1099511627776) (hjc : j ≤ c) (hd : w.cell? ⟨b, off + j, none⟩ = some (.string d)) (hz : d.size = 16) :
    Calls Tryd.prog 66 #[.pointer (some ⟨bp, 0, none⟩)] w fun e w' => e = .returned (.string d) ∧ PSt w' bl bp (some ⟨b, off, none⟩) c j sh ∧ Mut bl bp w w' := by
  have H := hide h
  have HE := emp_ne hz
  obtain ⟨h1, h2, h3, h4, h5⟩ := h
  go_enter Tryd.func66, Tryd.ntmps66
  go_wp2_with fail
  refine (pop_more bl b off c j d w hj hjc h1 h2 hd).mono ?_
  rintro e w1 ⟨rfl, q, rfl⟩
  have hb : Mut bl bp w ((w.setCell ⟨bl, 0, none⟩ (.slice (some ⟨b, off, none⟩) j c)).drewN q) := ((Mut.refl _ _ _).setCell ⟨bl, 0, none⟩ (Or.inl rfl) _).drewN q
  have H1 := H.out.setL hne j q
  generalize (w.setCell ⟨bl, 0, none⟩ (.slice (some ⟨b, off, none⟩) j c)).drewN q = w1 at *
  clear h1 h2 h3 h4 h5 hd H
  have H := hide H1
  obtain ⟨h1, h2, h3, h4, h5⟩ := H1
  cases sh with
  | true =>
    go_wp2
    go_ret
    exact ⟨rfl, H.out.setP hne true, hb.setCell ⟨bp, 1, none⟩ (Or.inr rfl) _⟩
  | false =>
    go_wp2
    go_ret
    exact ⟨rfl, H.out.setP hne false, hb.setCell ⟨bp, 1, none⟩ (Or.inr rfl) _⟩
theorem next_any (bl bp : Nat) (A : Option Addr) (c k : Nat) (sh : Bool) (p : List ByteArray) (B : Nat) (D : ByteArray) (K : Nat) (S : Bool) (hD : (p.take k).reverse.headD ⟨#[]⟩ = D) (hK : k - 1 = K) (hS : (sh || decide (k = 0)) = S) (w : World) (h : PSt w bl bp A c k sh) (hne : bl ≠ bp)
    (hk : k ≤ p.length) (hpc : p.length ≤ c) (hp : p.length ≤ 1048576) (hz : ∀ s ∈ p, s.size = 16) (hSt : Strs w B A p) :
    Calls Tryd.prog 66 #[.pointer (some ⟨bp, 0, none⟩)] w fun e w' => e = .returned (.string D) ∧ PSt w' bl bp A c K S ∧ Mut bl bp w w' := by
  subst hD hK hS
  cases k with
  | zero =>
    refine (next_zero bl bp A c sh w h hne).mono ?_
    rintro e w' ⟨rfl, h1, h2⟩
    refine ⟨rfl, ?_, h2⟩
    simpa using h1
  | succ j =>
    obtain ⟨b, off, rfl, _, hcell⟩ := hSt.get (k := j) (by omega)
    refine (next_more bl bp b off c j sh p[j] w h hne (by omega) (by omega) hcell (hz _ (List.getElem_mem _))).mono ?_
    rintro e w' ⟨rfl, h1, h2⟩
    refine ⟨ret_str ?_, ?_, h2⟩
    · rw [List.take_succ_eq_append_getElem (by omega), List.reverse_append]; rfl
    · simpa using h1
set_option maxHeartbeats 400000 in
theorem done_any (bl bp : Nat) (A : Option Addr) (c n : Nat) (sh : Bool) (R : Bool) (w : World) (h : PSt w bl bp A c n sh) (_hn : n ≤ 1099511627776) (hR : (!sh && decide (n = 0)) = R) :
    Calls Tryd.prog 67 #[.pointer (some ⟨bp, 0, none⟩)] w fun e w' => e = .returned (.bool R) ∧ w = w' := by
  subst hR
  obtain ⟨h1, h2, h3, h4, h5⟩ := h
  go_enter Tryd.func67, Tryd.ntmps67
  cases sh with
  | true =>
    go_wp2
    go_ret
    exact ⟨rfl, rfl⟩
  | false =>
    go_wp2
    go_ret
    refine ⟨ret_bool ?_, rfl⟩
    simp only [Bool.not_false, Bool.true_and]
    rw [Bool.eq_iff_iff]
    simp only [beq_iff_eq, decide_eq_true_eq]
    omega
end Go.Proofs.YtgncahnkkpjdpaaDoor
/- Check of package tree: its closure, then itself. -/
namespace Go.Proofs.YtgncahnkkpjdpaaDoor
open Go Go.RowKit Go.Sort
/-- Where the blocks lie that a proof under way uses. -/
structure Blk (w : World) (B bl bp bf bP bu : Nat) : Prop where
  g : 1 < B
  l : B ≤ bl
  p : B ≤ bp
  lp : bl ≠ bp
  fl : bf ≠ bl
  fp : bf ≠ bp
  Pl : bP ≠ bl
  Pp : bP ≠ bp
  ul : bu ≠ bl
  up : bu ≠ bp
  ll : bl < w.heap.size
  pl : bp < w.heap.size
  ff : bf < w.heap.size
  PP : bP < w.heap.size
  uu : bu < w.heap.size
theorem Blk.more {w w' : World} {B bl bp bf bP bu : Nat} (h : Blk w B bl bp bf bP bu) (hs : w.heap.size ≤ w'.heap.size) : Blk w' B bl bp bf bP bu :=
  ⟨h.g, h.l, h.p, h.lp, h.fl, h.fp, h.Pl, h.Pp, h.ul, h.up, Nat.lt_of_lt_of_le h.ll hs, Nat.lt_of_lt_of_le h.pl hs, Nat.lt_of_lt_of_le h.ff hs, Nat.lt_of_lt_of_le h.PP hs, Nat.lt_of_lt_of_le h.uu hs⟩
theorem Blk.lt {w : World} {B bl bp bf bP bu : Nat} (h : Blk w B bl bp bf bP bu) : B < w.heap.size := Nat.lt_of_le_of_lt h.l h.ll
/-- What the closure has captured. -/
structure CEnv (w : World) (g bf bP bu bp : Nat) (v : Value) : Prop where
  f : w.cell? ⟨bf, 0, none⟩ = some v
  P : w.cell? ⟨bP, 0, none⟩ = some (.pointer (some ⟨bp, 0, none⟩))
  u : w.cell? ⟨bu, 0, none⟩ = some (.func (.func g) #[] #[.pointer (some ⟨bf, 0, none⟩), .pointer (some ⟨bP, 0, none⟩), .pointer (some ⟨bu, 0, none⟩)])
theorem CEnv.mut {w w' : World} {B bl g bf bP bu bp : Nat} {v : Value} (h : CEnv w g bf bP bu bp v) (hb : Blk w B bl bp bf bP bu) (hm : Mut bl bp w w') : CEnv w' g bf bP bu bp v :=
  ⟨(hm.cell (p := ⟨bf, 0, none⟩) hb.ff hb.fl hb.fp).trans h.f, (hm.cell (p := ⟨bP, 0, none⟩) hb.PP hb.Pl hb.Pp).trans h.P, (hm.cell (p := ⟨bu, 0, none⟩) hb.uu hb.ul hb.up).trans h.u⟩
theorem Strs.mut {w w' : World} {B bl bf bP bu bp : Nat} {A : Option Addr} {l : List ByteArray} (h : Strs w B A l) (hb : Blk w B bl bp bf bP bu) (hm : Mut bl bp w w') : Strs w' B A l :=
  h.keep fun p hp => hm.cell (Nat.lt_trans hp hb.lt) (by have := hb.l; omega) (by have := hb.p; omega)
theorem Env.mut {w w' : World} {B bl bf bP bu bp : Nat} (h : Env w) (hb : Blk w B bl bp bf bP bu) (hm : Mut bl bp w w') : Env w' :=
  h.below (hm.toBelow hb.l hb.p (Nat.le_of_lt hb.lt)) hb.g
theorem PSt.drew {w : World} {bl bp : Nat} {A : Option Addr} {c n : Nat} {sh : Bool} (h : PSt w bl bp A c n sh) : PSt w.drew bl bp A c n sh := ⟨h.l, h.lf, h.p0, h.p1, h.pf⟩
theorem Strs.drew {w : World} {B : Nat} {A : Option Addr} {l : List ByteArray} (h : Strs w B A l) : Strs w.drew B A l := h.keep fun _ _ => rfl
theorem Mut.drew {bl bp : Nat} {a b : World} (h : Mut bl bp a.drew b) : Mut bl bp a b := ⟨h.os, h.tape, h.output, h.size, h.block⟩
theorem flag_step (sh : Bool) (k l : Nat) : ((sh || decide (k = 0)) || decide (k - 1 < l)) = (sh || decide (k < 1 + l)) := by
  cases sh with
  | true => rfl
  | false =>
    rw [Bool.false_or, Bool.false_or, Bool.eq_iff_iff]
    simp only [Bool.or_eq_true, decide_eq_true_eq]
    omega
theorem take_tail (p : List ByteArray) (k : Nat) (hk : k ≤ p.length) : (p.take k).reverse.tail = (p.take (k - 1)).reverse := by
  rw [rev_tail, List.take_take, List.length_take]
  congr 2
  omega
theorem head16 {p : List ByteArray} (k : Nat) (hz : ∀ s ∈ p, s.size = 16) : ((p.take k).reverse.headD ⟨#[]⟩).size ≤ 16 := by
  cases h : (p.take k).reverse with
  | nil => decide
  | cons a r =>
    have : a ∈ (p.take k).reverse := by rw [h]; exact List.mem_cons_self ..
    exact Nat.le_of_eq (hz a (List.mem_of_mem_take (List.mem_reverse.1 this)))
theorem up_sz (n i : Nat) (d : ByteArray) (r : List ByteArray) (hd : d.size = 16) : (Dg.up n i d r).size = 16 := by
  by_cases h1 : n ≤ 1
  · rw [Dg.up_one _ _ _ _ h1]; exact hd
  · by_cases hi : i < Dg.half n
    · rw [Dg.up_fst _ _ _ _ (by omega) hi, Dg.nodeB, listB_size]
    · rw [Dg.up_snd _ _ _ _ (by omega) hi, Dg.nodeB, listB_size]
set_option maxHeartbeats 1000000 in
theorem up_any (B bl bp bf bP bu c : Nat) (A : Option Addr) (leaf : ByteArray) (p : List ByteArray) (hz : ∀ s ∈ p, s.size = 16) (hpc : p.length ≤ c) (hp : p.length ≤ 1048576) (hleaf : leaf.size ≤ 1073741824) (n : Nat) :
    ∀ (i k K : Nat) (sh S : Bool) (R : ByteArray) (w : World), 1 ≤ n → n ≤ 1000000 → i < n → k ≤ p.length → Dg.up n i (Dg.leafB leaf) (p.take k).reverse = R → k - Dg.length n i = K → (sh || decide (k < Dg.length n i)) = S →
    Env w → Blk w B bl bp bf bP bu → PSt w bl bp A c k sh → CEnv w 65 bf bP bu bp (.string leaf) → Strs w B A p →
    Calls Tryd.prog 65 #[.int .i64 n, .int .i64 i, .pointer (some ⟨bf, 0, none⟩), .pointer (some ⟨bP, 0, none⟩), .pointer (some ⟨bu, 0, none⟩)] w fun e w' => e = .returned (.string R) ∧ PSt w' bl bp A c K S ∧ Mut bl bp w w' := by
  induction n using Nat.strongRecOn with
  | _ n ih =>
  intro i k K sh S R w h1 hn hi hk hR hK hS he hb hst hce hst2
  have HR := hide hR; have HK := hide hK; have HS := hide hS; clear hR hK hS
  have HZ := hide hz; clear hz
  have HST := hide hst; clear hst
  have HCE := hide hce
  obtain ⟨hcf, hcP, hcu⟩ := hce
  go_enter Tryd.func65, Tryd.ntmps65
  by_cases hone : n = 1
  · subst hone
    have hm := hide (mem2 (a := Dg.sLeaf) (n := 1073741824) (by decide) hleaf)
    go_wp2_with fail
    refine (list_new [Dg.sLeaf, leaf] _ _ 2 _ rfl (len2 _ _) hm.out (Dg.leafB leaf) rfl w he rfl _ rfl).mono ?_
    rintro e w1 ⟨rfl, hb1⟩
    go_wp2
    go_ret
    have e1 := HR.out; have e2 := HK.out; have e3 := HS.out
    rw [Dg.up_one _ _ _ _ (Nat.le_refl _)] at e1
    rw [Dg.length_one _ _ (Nat.le_refl _)] at e2 e3
    refine ⟨ret_str e1, ?_, Mut.below hb1⟩
    have : S = sh := by rw [← e3]; simp
    rw [this, ← e2]
    exact HST.out.below hb.ll hb.pl hb1
  · have g1 := Dg.half_pos n
    have g2 := Dg.half_lt n (by omega)
    have n1 : ¬ ((n : Int) = 1) := by omega
    have pf := hide (fun h => (Dg.length_fst n i (by omega) h))
    have ps := hide (fun h => (Dg.length_snd n i (by omega) h))
    have uf := hide (fun h => (Dg.up_fst n i (Dg.leafB leaf) (p.take k).reverse (by omega) h))
    have us := hide (fun h => (Dg.up_snd n i (Dg.leafB leaf) (p.take k).reverse (by omega) h))
    have g4 : 1 ≤ n - Dg.half n := by omega
    have IH := hide ih; clear ih
    have lh := length_le (Dg.half n) i
    have lh' := length_le (n - Dg.half n) (i - Dg.half n)
    have z1 := up_sz (Dg.half n) i (Dg.leafB leaf) (p.take (k - 1)).reverse (listB_size _)
    have z2 := up_sz (n - Dg.half n) (i - Dg.half n) (Dg.leafB leaf) (p.take (k - 1)).reverse (listB_size _)
    have zd := head16 k HZ.out
    rw [take_tail p k hk] at uf us
    generalize hD : (p.take k).reverse.headD ⟨#[]⟩ = D at *
    have HD := hide hD; clear hD
    have FS := hide (flag_step sh k)
    generalize hS1 : (sh || decide (k = 0)) = S1 at *
    have HS1 := hide hS1; clear hS1
    generalize hm : Dg.half n = m at *
    have HM0 := hide hm; clear hm
    go_upto_region 3 with (fail)
    go_cut [8, 9] (fun kv dv wx => kv = .int .i64 m ∧ dv = .string D ∧ PSt wx bl bp A c (k - 1) S1 ∧ Mut bl bp w wx)
    case first =>
      go_region_with (first
        | (go_at_call 55; refine (half_any n (by omega) _).mono ?_; rintro e w1 ⟨rfl, rfl⟩; rw [HM0.out])
        | (go_at_call 66; refine (next_any bl bp A c k sh p B D (k - 1) S1 HD.out rfl HS1.out _ HST.out.drew hb.lp hk hpc hp HZ.out hst2.drew).mono ?_; rintro e w1 ⟨rfl, HQ, HM⟩; have HQ := hide HQ; have HM := hide HM.drew))
      all_goals go_wp2_with fail
      all_goals go_meet
      all_goals exact ⟨rfl, rfl, HQ.out, HM.out⟩
    case rest =>
      obtain ⟨rfl, rfl, hq, hmw⟩ := hcut
      have he2 := he.mut hb hmw
      have hb2 := hb.more hmw.size
      have hce2 := HCE.out.mut hb hmw
      have hst3 := hst2.mut hb hmw
      have HMW := hide hmw
      have HQ := hide hq; clear hq hmw hcf hcP hcu HCE HST hst2 he
      have HCE := hide hce2
      obtain ⟨hcf, hcP, hcu⟩ := hce2
      by_cases him : i < m
      · have e1 := uf.out him
        have e2 := pf.out him
        have hr := hide (HR.out.symm.trans e1)
        have hk2 := HK.out
        have hs2 := HS.out
        rw [e2] at hk2 hs2
        rw [← FS.out] at hs2
        have hk3 := hide (show k - 1 - Dg.length m i = K by omega); clear hk2 e1 e2
        have hs3 := hide hs2; clear hs2
        have i1 := hide (IH.out m g2 i (k - 1) K S1 S _ wc g1 (by omega) him (by omega) rfl hk3.out hs3.out he2 hb2 HQ.out HCE.out hst3)
        generalize Dg.up m i (Dg.leafB leaf) (p.take (k - 1)).reverse = X at *
        clear IH
        go_wp2_with fail
        refine i1.out.mono ?_
        rintro e w1 ⟨rfl, hq1, hm1⟩
        have he3 := he2.mut hb2 hm1
        have hb3 := hb2.more hm1.size
        have HQ1 := hide hq1; have HM1 := hide hm1; clear hq1 hm1
        go_wp2_with fail
        refine (node_any X D (by omega) (by omega) _ he3).mono ?_
        rintro e w2 ⟨rfl, hb4⟩
        go_wp2
        go_ret
        exact ⟨ret_str hr.out.symm, HQ1.out.below hb3.ll hb3.pl hb4, (HMW.out.trans HM1.out).next hb4⟩
      · have e1 := us.out him
        have e2 := ps.out him
        have hr := hide (HR.out.symm.trans e1)
        have hk2 := HK.out
        have hs2 := HS.out
        rw [e2] at hk2 hs2
        rw [← FS.out] at hs2
        have hk3 := hide (show k - 1 - Dg.length (n - m) (i - m) = K by omega); clear hk2 e1 e2
        have hs3 := hide hs2; clear hs2
        have i1 := hide (IH.out (n - m) (by omega) (i - m) (k - 1) K S1 S _ wc g4 (by omega) (by omega) (by omega) rfl hk3.out hs3.out he2 hb2 HQ.out HCE.out hst3)
        generalize Dg.up (n - m) (i - m) (Dg.leafB leaf) (p.take (k - 1)).reverse = X at *
        have c1 : (n : Int) - (m : Int) = ((n - m : Nat) : Int) := by omega
        have c2 : (i : Int) - (m : Int) = ((i - m : Nat) : Int) := by omega
        clear IH
        go_wp2_with fail
        refine i1.out.mono ?_
        rintro e w1 ⟨rfl, hq1, hm1⟩
        have he3 := he2.mut hb2 hm1
        have hb3 := hb2.more hm1.size
        have HQ1 := hide hq1; have HM1 := hide hm1; clear hq1 hm1
        go_wp2_with fail
        refine (node_any D X (by omega) (by omega) _ he3).mono ?_
        rintro e w2 ⟨rfl, hb4⟩
        go_wp2
        go_ret
        exact ⟨ret_str hr.out.symm, HQ1.out.below hb3.ll hb3.pl hb4, (HMW.out.trans HM1.out).next hb4⟩
end Go.Proofs.YtgncahnkkpjdpaaDoor
/- Check of package tree. -/
namespace Go.Proofs.YtgncahnkkpjdpaaDoor
open Go Go.RowKit Go.Sort
/-- What Check answers. -/
def checkB (root : ByteArray) (n i : Int) (s : ByteArray) (p : List ByteArray) : Bool :=
  decide (n ≤ 1000000 ∧ 0 ≤ i ∧ i < n) && (allDig p && (decide (p.length = Dg.length n.toNat i.toNat) && decide (Dg.up n.toNat i.toNat (Dg.leafB s) p.reverse = root)))
theorem allDig_mem {p : List ByteArray} (h : allDig p = true) : ∀ s ∈ p, Dg.isB s = true := fun s hs => by unfold allDig at h; exact List.all_eq_true.1 h s hs
theorem allDig_16 {p : List ByteArray} (h : allDig p = true) : ∀ s ∈ p, s.size = 16 := fun s hs => Dg.isB_len (allDig_mem h s hs)
/-- The blocks that Check and Extends lay before they call their closures. -/
theorem setup (w : World) (g : Nat) (T1 T2 T3 : TypeId) (B bl bf c n : Nat) (A : Option Addr) (v : Value) (h1 : w.cell? ⟨bl, 0, none⟩ = some (.slice A n c)) (h2 : w.frozen? ⟨bl, 0, none⟩ = false) (h3 : w.cell? ⟨bf, 0, none⟩ = some v)
    (hbl : bl < w.heap.size) (hbf : bf < w.heap.size) (hne : bf ≠ bl) (hB : B ≤ bl) (hg : 1 < B) (N1 N2 : Nat) (hN1 : N1 = w.heap.size + 1) (hN2 : N2 = w.heap.size + 1 + 1) (W : World)
    (hW : W = ((w.alloc (.cells #[.pointer (some ⟨bl, 0, none⟩), .bool false] T1)).alloc (.cells #[.pointer (some ⟨w.heap.size, 0, none⟩)] T2)).alloc (.cells #[.func (.func g) #[] #[.pointer (some ⟨bf, 0, none⟩), .pointer (some ⟨N1, 0, none⟩), .pointer (some ⟨N2, 0, none⟩)]] T3)) :
    PSt W bl w.heap.size A c n false ∧ CEnv W g bf N1 N2 w.heap.size v ∧ Blk W B bl w.heap.size bf N1 N2 ∧ Below w.heap.size w W := by
  subst hW hN1 hN2
  generalize ho1 : Obj.cells #[.pointer (some ⟨bl, 0, none⟩), .bool false] T1 = o1
  generalize ho2 : Obj.cells #[.pointer (some ⟨w.heap.size, 0, none⟩)] T2 = o2
  generalize ho3 : Obj.cells #[.func (.func g) #[] #[.pointer (some ⟨bf, 0, none⟩), .pointer (some ⟨w.heap.size + 1, 0, none⟩), .pointer (some ⟨w.heap.size + 1 + 1, 0, none⟩)]] T3 = o3
  have s1 : (w.alloc o1).heap.size = w.heap.size + 1 := by simp
  have s2 : ((w.alloc o1).alloc o2).heap.size = w.heap.size + 1 + 1 := by simp
  have s3 : (((w.alloc o1).alloc o2).alloc o3).heap.size = w.heap.size + 1 + 1 + 1 := by simp
  have b0 : Below w.heap.size w (((w.alloc o1).alloc o2).alloc o3) := (((Below.refl _ _).alloc (Nat.le_refl _) _).alloc (by omega) _).alloc (by omega) _
  have b1 : Below (w.alloc o1).heap.size (w.alloc o1) (((w.alloc o1).alloc o2).alloc o3) := ((Below.refl _ _).alloc (Nat.le_refl _) _).alloc (by omega) _
  have b2 : Below ((w.alloc o1).alloc o2).heap.size ((w.alloc o1).alloc o2) (((w.alloc o1).alloc o2).alloc o3) := (Below.refl _ _).alloc (Nat.le_refl _) _
  have n1 : (w.alloc o1).heap[w.heap.size]? = some o1 := heap_alloc_new w o1
  have n2 : ((w.alloc o1).alloc o2).heap[w.heap.size + 1]? = some o2 := by have := heap_alloc_new (w.alloc o1) o2; rwa [s1] at this
  have n3 : (((w.alloc o1).alloc o2).alloc o3).heap[w.heap.size + 1 + 1]? = some o3 := by have := heap_alloc_new ((w.alloc o1).alloc o2) o3; rwa [s2] at this
  subst ho1 ho2 ho3
  refine ⟨⟨?_, ?_, ?_, ?_, ?_⟩, ⟨?_, ?_, ?_⟩, ⟨hg, hB, by omega, by omega, hne, by omega, by omega, by omega, by omega, by omega, by omega, by omega, by omega, by omega, by omega⟩, b0⟩
  · exact (b0.cell (p := ⟨bl, 0, none⟩) hbl).trans h1
  · exact (b0.frozen (p := ⟨bl, 0, none⟩) hbl).trans h2
  · rw [b1.cell (p := ⟨w.heap.size, 0, none⟩) (by show w.heap.size < _; omega), cell_of_row _ _ _ _ _ (0, 0) n1]; rfl
  · rw [b1.cell (p := ⟨w.heap.size, 1, none⟩) (by show w.heap.size < _; omega), cell_of_row _ _ _ _ _ (0, 0) n1]; rfl
  · rw [b1.frozen (p := ⟨w.heap.size, 1, none⟩) (by show w.heap.size < _; omega)]; exact frozen_of_row _ _ _ _ _ n1
  · exact (b0.cell (p := ⟨bf, 0, none⟩) hbf).trans h3
  · rw [b2.cell (p := ⟨w.heap.size + 1, 0, none⟩) (by show w.heap.size + 1 < _; omega), cell_of_row _ _ _ _ _ (0, 0) n2]; rfl
  · rw [cell_of_row _ _ _ _ _ (0, 0) n3]; rfl
theorem used_all (a b : Nat) : (!(false || decide (a < b)) && decide (a - b = 0)) = decide (a = b) := by
  rw [Bool.false_or, Bool.eq_iff_iff]
  simp only [Bool.and_eq_true, Bool.not_eq_true', decide_eq_false_iff_not, decide_eq_true_eq]
  omega
set_option maxHeartbeats 1000000 in
theorem check_of (root : ByteArray) (n i : Int) (leaf : ByteArray) (A : Option Addr) (c k : Nat) (p : List ByteArray) (R : Bool) (hR : checkB root n i leaf p = R) (w : World) (he : Env w) (hk : p.length = k) (hk2 : k ≤ 1048576) (hps : ∀ s ∈ p, s.size ≤ 1073741824) (hleaf : leaf.size ≤ 1073741824) (hS : Strs w w.heap.size A p) :
    Calls Tryd.prog 41 #[.string root, .int .i64 n, .int .i64 i, .string leaf, .slice A k c] w fun e w' => e = .returned (.bool R) ∧ Below w.heap.size w w' := by
  have HR := hide hR; clear hR
  have HPS := hide hps; clear hps
  go_enter Tryd.func41, Tryd.ntmps41
  have hS1 : Strs (w.alloc (.cells #[.string leaf] 9)) (w.alloc (.cells #[.string leaf] 9)).heap.size A p := keepS hS ((Below.refl _ _).alloc (Nat.le_refl _) _)
  go_wp2_with fail
  refine (clone_any A k c p _ hk (by omega) hS1).mono ?_
  rintro e w2 ⟨v', rfl, ho, hb2⟩
  obtain ⟨A1, c1, rfl, hc1, hS2⟩ := ho.strs
  subst hk
  have hbf : w2.cell? ⟨w.heap.size, 0, none⟩ = some (.string leaf) := by
    rw [hb2.cell (p := ⟨w.heap.size, 0, none⟩) (by simp), cell_of_row _ _ _ _ _ (0, 0) (heap_alloc_new w _)]; rfl
  have hsz : w.heap.size < w2.heap.size := by have := hb2.size; simp at this; omega
  have hB := ((Below.refl _ w).alloc (Nat.le_refl _) (.cells #[.string leaf] 9)).trans (hb2.mono (by simp))
  clear ho hS1 hS hb2
  by_cases q1 : 1000000 < n
  · have q : checkB root n i leaf p = false := by unfold checkB; rw [decide_eq_false (by omega), Bool.false_and]
    have := q.symm.trans HR.out
    subst this
    go_wp2
    go_ret
    exact ⟨rfl, hB.alloc (by omega) _⟩
  by_cases q2 : i < 0
  · have q : checkB root n i leaf p = false := by unfold checkB; rw [decide_eq_false (by omega), Bool.false_and]
    have := q.symm.trans HR.out
    subst this
    go_wp2
    go_ret
    exact ⟨rfl, hB.alloc (by omega) _⟩
  by_cases q3 : n ≤ i
  · have q : checkB root n i leaf p = false := by unfold checkB; rw [decide_eq_false (by omega), Bool.false_and]
    have := q.symm.trans HR.out
    subst this
    go_wp2
    go_ret
    exact ⟨rfl, hB.alloc (by omega) _⟩
  obtain ⟨I, rfl⟩ : ∃ I : Nat, i = I := ⟨i.toNat, by omega⟩
  obtain ⟨N, rfl⟩ : ∃ N : Nat, n = N := ⟨n.toNat, by omega⟩
  have q4 : decide ((N : Int) ≤ 1000000 ∧ (0 : Int) ≤ I ∧ (I : Int) < N) = true := decide_eq_true (by omega)
  have hG := (he.next hB).lt
  have hE2 := he.next hB
  have o1 : N ≤ 1000000 := by omega
  have o2 : I < N := by omega
  clear q1 q2 q3
  go_wp2_with fail
  cases hd : allDig p with
  | false =>
    have q : checkB root N I leaf p = false := by unfold checkB; rw [hd, Bool.false_and, Bool.and_false]
    have := q.symm.trans HR.out
    subst this
    refine (proper_any A1 c1 p.length p false hd _ rfl (by omega) (fun s hs => by have := HPS.out s hs; omega) (keepS hS2 ((Below.refl _ _).alloc (Nat.le_refl _) _))).mono ?_
    rintro e w3 ⟨rfl, hb3⟩
    clear hd
    go_wp2
    go_ret
    exact ⟨rfl, bnextA hB hb3⟩
  | true =>
    refine (proper_any A1 c1 p.length p true hd _ rfl (by omega) (fun s hs => by have := HPS.out s hs; omega) (keepS hS2 ((Below.refl _ _).alloc (Nat.le_refl _) _))).mono ?_
    rintro e w3 ⟨rfl, hb3⟩
    have q : checkB root N I leaf p = (decide (p.length = Dg.length N I) && decide (Dg.up N I (Dg.leafB leaf) p.reverse = root)) := by
      unfold checkB; rw [hd, q4, Bool.true_and, Bool.true_and, Int.toNat_natCast, Int.toNat_natCast]
    have HR2 := hide (q.symm.trans HR.out); clear q q4
    have h16 := hide (allDig_16 hd); clear hd
    have hb32 : Below w2.heap.size w2 w3 := bnextA (Below.refl _ _) hb3
    have hsz3 := hb3.size
    simp only [World.size_alloc] at hsz3
    have x1 : w3.cell? ⟨w2.heap.size, 0, none⟩ = some (.slice A1 p.length c1) := by
      rw [hb3.cell (p := ⟨w2.heap.size, 0, none⟩) (by simp), cell_of_row _ _ _ _ _ (0, 0) (heap_alloc_new w2 _)]; rfl
    have x2 : w3.frozen? ⟨w2.heap.size, 0, none⟩ = false := by
      rw [hb3.frozen (p := ⟨w2.heap.size, 0, none⟩) (by simp)]; exact frozen_of_row _ _ _ _ _ (heap_alloc_new w2 _)
    have x3 : w3.cell? ⟨w.heap.size, 0, none⟩ = some (.string leaf) := (hb32.cell (p := ⟨w.heap.size, 0, none⟩) hsz).trans hbf
    obtain ⟨y1, y2, y3, y4⟩ := setup w3 65 100 97 101 w2.heap.size w2.heap.size w.heap.size c1 p.length A1 (.string leaf) x1 x2 x3 (by omega) (by omega) (by omega) (Nat.le_refl _) hG (w3.heap.size + 1) (w3.heap.size + 1 + 1) rfl rfl _ rfl
    have hB3 := hB.trans (hb32.mono hB.size)
    have hE3 := (hE2.next hb32).next y4
    have hS3 := (hS2.below hb32).below (y4.mono hb32.size)
    have Y1 := hide y1; have Y2 := hide y2; have Y3 := hide y3; have HS3 := hide hS3; have HE3 := hide hE3; have Y4 := hide y4
    clear y1 y2 y3 hS3 hE3 y4 x1 x2 x3 hbf hb3 hE2 hS2
    have hup := hide (fun (W : World) (a1 : Env W) (a2 : Blk W w2.heap.size w2.heap.size w3.heap.size w.heap.size (w3.heap.size + 1) (w3.heap.size + 1 + 1)) a3 a4 a5 => up_any w2.heap.size w2.heap.size w3.heap.size w.heap.size (w3.heap.size + 1) (w3.heap.size + 1 + 1) c1 A1 leaf p h16.out hc1 (by omega) hleaf N I p.length _ false _ _ W (by omega) o1 o2 (Nat.le_refl _) rfl rfl rfl a1 a2 a3 a4 a5)
    have hl := length_le N I
    rw [List.take_length] at hup
    go_wp2_with fail
    refine (hup.out _ HE3.out Y3.out Y1.out Y2.out HS3.out).mono ?_
    rintro e w4 ⟨rfl, hq, hm⟩
    have hB4 := (hB3.trans (Y4.out.mono hB3.size)).trans (hm.toBelow (by omega) (by omega) (by simp; omega))
    have hdone := hide (fun R hR => done_any w2.heap.size w3.heap.size A1 c1 (p.length - Dg.length N I) (false || decide (p.length < Dg.length N I)) R w4 hq (by omega) hR)
    have hcP := (Y2.out.mut Y3.out hm).P
    generalize hX : Dg.up N I (Dg.leafB leaf) p.reverse = X at *
    clear hX hup hq hm
    by_cases hx : X = root
    · have HH := HR2.out
      rw [decide_eq_true hx, Bool.and_true] at HH
      have t1 := tl_true hx
      have HH := hide HH
      subst hx
      go_wp2_with fail
      refine (hdone.out R ((used_all _ _).trans HH.out)).mono ?_
      rintro e w5 ⟨rfl, rfl⟩
      go_wp2
      go_ret
      exact ⟨rfl, hB4⟩
    · have HH := HR2.out
      rw [decide_eq_false hx, Bool.and_false] at HH
      subst HH
      have t1 := tl_false hx
      clear hx
      go_wp2
      go_ret
      exact ⟨rfl, hB4⟩
end Go.Proofs.YtgncahnkkpjdpaaDoor
/- The closure of Extends of package tree. -/
namespace Go.Proofs.YtgncahnkkpjdpaaDoor
open Go Go.RowKit Go.Sort
theorem long_le (n : Nat) : ∀ (m : Nat) (w : Bool), 1 ≤ m → m ≤ n → Dg.long n m w ≤ n := by
  induction n using Nat.strongRecOn with
  | _ n ih =>
  intro m w h1 hm
  by_cases he : m = n
  · subst he; rw [Dg.long_all]; split <;> omega
  · have g1 := Dg.half_pos n
    have g2 := Dg.half_lt n (by omega)
    by_cases hh : m ≤ Dg.half n
    · rw [Dg.long_fst n m w h1 (by omega) hh]
      have := ih (Dg.half n) g2 m w h1 hh
      omega
    · rw [Dg.long_snd n m w (by omega) hh]
      have := ih (n - Dg.half n) (by omega) (m - Dg.half n) false (by omega) (by omega)
      omega
theorem headD16 {r : List ByteArray} (h : ∀ s ∈ r, s.size ≤ 16) : (r.headD ⟨#[]⟩).size ≤ 16 := by
  cases r with
  | nil => decide
  | cons a r => exact h a (List.mem_cons_self ..)
theorem bothW_sz (w : List Bool) : ∀ (whole : Bool) (old : ByteArray) (r : List ByteArray), old.size ≤ 16 → (∀ s ∈ r, s.size ≤ 16) → (Dg.bothW w whole old r).1.size ≤ 16 ∧ (Dg.bothW w whole old r).2.size ≤ 16 := by
  induction w with
  | nil =>
    intro whole old r ho hr
    rw [Dg.bothW]
    split
    · exact ⟨ho, ho⟩
    · exact ⟨headD16 hr, headD16 hr⟩
  | cons b w ih =>
    intro whole old r ho hr
    have hn : ∀ x y, (Dg.nodeB x y).size ≤ 16 := fun x y => by rw [Dg.nodeB, listB_size]; decide
    cases b with
    | true => exact ⟨(ih _ _ _ ho fun s hs => hr s (List.mem_of_mem_tail hs)).1, hn _ _⟩
    | false => exact ⟨hn _ _, hn _ _⟩
theorem both_sz (n m : Nat) (wh : Bool) (old : ByteArray) (p : List ByteArray) (k : Nat) (ho : old.size = 16) (hz : ∀ s ∈ p, s.size = 16) : (Dg.both n m wh old (p.take k).reverse).1.size ≤ 16 ∧ (Dg.both n m wh old (p.take k).reverse).2.size ≤ 16 :=
  bothW_sz _ _ _ _ (by omega) fun s hs => by rw [hz s (List.mem_of_mem_take (List.mem_reverse.1 hs))]; decide
theorem ret_pair {a b c d : ByteArray} (h : a = c) (h' : b = d) : Ending.returned (.tuple #[.string a, .string b]) = .returned (.tuple #[.string c, .string d]) := by rw [h, h']
theorem flag_one (sh : Bool) (k : Nat) : (sh || decide (k = 0)) = (sh || decide (k < 1)) := by
  cases sh with
  | true => rfl
  | false => rw [Bool.false_or, Bool.false_or]; exact decide_eq_decide.2 (by omega)
theorem flag_no (sh : Bool) (k : Nat) : (sh || decide (k < 0)) = sh := by simp
theorem PSt.drewN {w : World} {bl bp : Nat} {A : Option Addr} {c n : Nat} {sh : Bool} (h : PSt w bl bp A c n sh) (q : Nat) : PSt (w.drewN q) bl bp A c n sh := ⟨h.l, h.lf, h.p0, h.p1, h.pf⟩
end Go.Proofs.YtgncahnkkpjdpaaDoor
/- Extends of package tree. -/
namespace Go.Proofs.YtgncahnkkpjdpaaDoor
open Go Go.RowKit Go.Sort
/-- What Extends answers. -/
def extB (old : ByteArray) (m : Int) (root : ByteArray) (n : Int) (p : List ByteArray) : Bool :=
  decide (0 ≤ m ∧ m ≤ n ∧ n ≤ 1000000) && (allDig p && (allDig [old, root] &&
    (if m = 0 then decide (p.length = 0) && (decide (old = Dg.emptyB) && (decide (0 < n) || decide (root = old)))
     else decide (p.length = Dg.long n.toNat m.toNat true) && (decide ((Dg.both n.toNat m.toNat true old p.reverse).1 = old) && decide ((Dg.both n.toNat m.toNat true old p.reverse).2 = root)))))
theorem allDig_two {a b : ByteArray} (h : allDig [a, b] = true) : a.size = 16 ∧ b.size = 16 := ⟨allDig_16 h a (by simp), allDig_16 h b (by simp)⟩
theorem root_nil_of (w : World) (he : Env w) : Calls Tryd.prog 30 #[.slice none 0 0] w fun e w' => e = .returned (.string Dg.emptyB) ∧ Below w.heap.size w w' :=
  root_of 0 none 0 [] Dg.emptyB w rfl rfl he (Nat.le_refl _) (by omega) (by simp) (Strs.nil _ _ _)
end Go.Proofs.YtgncahnkkpjdpaaDoor
/- Path of the reference. -/
namespace Go.Proofs.YtgncahnkkpjdpaaDoor
open Go Go.RowKit Go.Sort
theorem OwnS.base {w : World} {B B' : Nat} {v : Value} {l : List ByteArray} (h : OwnS w B v l) (hB : B' ≤ B) : OwnS w B' v l := by
  obtain ⟨h1, h2⟩ := h
  refine ⟨h1, ?_⟩
  rcases h2 with h2 | ⟨g, cap, cur, hv, hg, hh, r⟩
  · exact Or.inl h2
  · exact Or.inr ⟨g, cap, cur, hv, by omega, hh, r⟩
theorem OwnS.alloc {w : World} {B : Nat} {v : Value} {l : List ByteArray} (h : OwnS w B v l) (o : Obj) : OwnS (w.alloc o) B v l := OwnV.alloc h o
theorem OwnS.drew {w : World} {B : Nat} {v : Value} {l : List ByteArray} (h : OwnS w B v l) : OwnS w.drew B v l := h
theorem new_cell (w : World) (v : Value) (T : TypeId) : (w.alloc (.cells #[v] T)).cell? ⟨w.heap.size, 0, none⟩ = some v := by
  rw [cell_of_row _ _ _ _ _ (0, 0) (heap_alloc_new w _)]; rfl
/-- One string, known by its cell, onto strings of the call's own. -/
theorem step_c (w0 : World) {ops : Array Oper} {rest : List Oper} {o : Oper} {a : Act} {Q : Exit → Act → World → Prop} (hgd : o.guard = none) (sl x : Operand)
    (ho : o.op = .call { callee := .builtin .append, args := #[sl, x], argTypes := #[22, 22] })
    (s : ByteArray) (B : Nat) (v : Value) (l : List ByteArray) (hs : a.eval sl = v) (hown : OwnS w0 B v l) (ad : Addr) (c : Nat) (hx : a.eval x = .slice (some ad) 1 c) (hc : w0.cell? ad = some (.string s))
    (hlen : l.length < 1099511627776) (hB : B ≤ w0.heap.size)
    (h : ∀ v' w', OwnS w' B v' (l ++ [s]) → Below B w0 w' → wpList Tryd.prog ops Q rest (a.put o.dst v') w') : wpList Tryd.prog ops Q (o :: rest) a w0 := by
  refine step_one _ hgd sl x 22 9 _ _ ho Tryd.underlying22 strInfo rfl B v _ hs hown ad c (.string s) hx hc rfl (by rw [List.length_map]; exact hlen) (by omega) hB fun v' w' h1 h2 => h v' w' ?_ h2
  unfold OwnS
  rw [List.map_append]
  exact h1
/-- The same at a step of a region that draws its order. -/
theorem step_cd {w : World} {ops : Array Oper} {o : Oper} {a : Act} {K : Act → World → Prop} {Q : Exit → Act → World → Prop} {E : Prop} (hgd : o.guard = none) (sl x : Operand)
    (ho : o.op = .call { callee := .builtin .append, args := #[sl, x], argTypes := #[22, 22] })
    (s : ByteArray) (B : Nat) (v : Value) (l : List ByteArray) (hs : a.eval sl = v) (hown : OwnS w B v l) (ad : Addr) (c : Nat) (hx : a.eval x = .slice (some ad) 1 c) (hc : w.cell? ad = some (.string s))
    (hlen : l.length < 1099511627776) (hB : B ≤ w.heap.size)
    (h : ∀ g cap w', OwnS w' B (.slice (some ⟨g, 0, none⟩) (l.length + 1) cap) (l ++ [s]) → Below B w w' → K (a.put o.dst (.slice (some ⟨g, 0, none⟩) (l.length + 1) cap)) w') :
    if Region.wanted o (yielded ops a.tmps) = true then Oper.wp Tryd.prog o a w K Q else E := by
  obtain ⟨i, h1, h2, h3, h4⟩ := info_parts strInfo
  unfold OwnS OwnV at hown
  rw [List.length_map] at hown
  refine step_append_lies w hgd sl x 22 ho B 9 i _ 1 16 Tryd.underlying22 h1 h2 h3 h4 rfl (by omega) v l.length _ hs hown ad 1 c [.string s] hx rfl ?_ ?_ (by omega) (by unfold maxLen; omega) (by omega) hB w.heap.size rfl fun g cap w' h5 h6 _ _ => h g cap w' ?_ (below_own hown h6 hB)
  · intro j u' hj
    rcases j with _ | j
    · obtain rfl : Value.string s = u' := by simpa using hj
      have : ad.add 0 = ad := by unfold Addr.add; simp
      rw [this]; exact hc
    · simp at hj
  · intro u' hu'
    obtain rfl : u' = Value.string s := by simpa using hu'
    rfl
  · unfold OwnS OwnV
    rw [List.length_map, List.length_append, List.map_append, List.length_singleton]
    exact h5
theorem Below.more {w W : World} (h : Below w.heap.size w W) (o : Obj) : Below w.heap.size w (W.alloc o) := h.alloc h.size o
theorem Below.news {w W : World} (_h : Below w.heap.size w W) (o : Obj) : Below W.heap.size W (W.alloc o) := (Below.refl _ _).alloc (Nat.le_refl _) o
end Go.Proofs.YtgncahnkkpjdpaaDoor
/- Path and Link of the reference. -/
namespace Go.Proofs.YtgncahnkkpjdpaaDoor
open Go Go.RowKit Go.Sort
theorem own_new (w : World) (s : ByteArray) (B : Nat) (hB : B ≤ w.heap.size) : OwnS (w.alloc (.cells #[.string s] 9)) B (.slice (some ⟨w.heap.size, 0, none⟩) 1 1) [s] :=
  ⟨rfl, Or.inr ⟨w.heap.size, 1, #[.string s], rfl, hB, heap_alloc_new w _, Nat.le_refl _, by unfold maxLen; omega, rfl, rfl⟩⟩
theorem link_le (n : Nat) (l : List ByteArray) (m : Nat) (w : Bool) (hl : l.length = n) (h1 : 1 ≤ m) (hm : m ≤ n) : (Dg.link l m w).length ≤ n := by
  rw [Dg.link_len n l m w hl h1 hm]; exact long_le n m w h1 hm
/-- What Link hands back: nothing for none and for all. -/
def linkL (l : List ByteArray) (m : Nat) : List ByteArray := if m = 0 then [] else Dg.link l m true
theorem linkL_zero (l : List ByteArray) : linkL l 0 = [] := rfl
theorem linkL_pos (l : List ByteArray) (m : Nat) (h : m ≠ 0) : linkL l m = Dg.link l m true := if_neg h
theorem linkL_all (l : List ByteArray) : linkL l l.length = [] := by
  unfold linkL
  split
  · rfl
  · rw [Dg.link_all]; rfl
end Go.Proofs.YtgncahnkkpjdpaaDoor
/- of, start, key, keys, Public of package seal. -/
namespace Go.Proofs.YtgncahnkkpjdpaaDoor
open Go Go.RowKit Go.Sort
theorem of_of (A : Option Addr) (c k : Nat) (l : List ByteArray) (hk : l.length = k) (r : ByteArray) (hr : Dg.listB l = r) (w : World) (he : Env w) (hl : l.length ≤ 1099511627776) (hj : (Dg.joinedL l).length ≤ 1099511627776) (hs : ∀ s ∈ l, s.size ≤ 1099511627776) (hS : Strs w w.heap.size A l) :
    Calls Tryd.prog 42 #[.slice A k c] w fun e w' => e = .returned (.string r) ∧ Below w.heap.size w w' := by
  go_enter Tryd.func42, Tryd.ntmps42
  go_wp2_with fail
  refine (list_of A 0 c k l hk r hr w he hl hj hs hS).mono ?_
  rintro e w1 ⟨rfl, hb⟩
  clear hr
  go_wp2
  go_ret
  exact ⟨rfl, hb⟩
theorem of_new (l : List ByteArray) (cs : Array Value) (T : TypeId) (k c : Nat) (hk : l.length = k) (h8 : l.length ≤ 8) (h : ∀ s ∈ l, s.size ≤ 1073741824) (r : ByteArray) (hr : Dg.listB l = r) (w : World) (he : Env w) (hcs : cs.toList = l.map .string) (n : Nat) (hn : w.heap.size = n) :
    Calls Tryd.prog 42 #[.slice (some ⟨n, 0, none⟩) k c] (w.alloc (.cells cs T)) fun e w' => e = .returned (.string r) ∧ Below w.heap.size w w' := by
  subst hn
  exact (of_of _ _ k l hk r hr _ (he.alloc _) (by omega) (joinedL_small _ h8 h) (mem_le h (by decide)) (Strs.new _ _ _ _ hcs)).mono fun e w' ⟨h1, h2⟩ => ⟨h1, bnextA (Below.refl _ _) h2⟩
theorem itoa_of (n : Nat) (D : ByteArray) (hD : Dg.decS n = D) (hn : n ≤ 9223372036854775807) (w : World) (he : Env w) :
    Calls Tryd.prog 37 #[.int .i64 (n : Int)] w fun e w' => e = .returned (.string D) ∧ Below w.heap.size w w' := by
  have e : decB n = D := by rw [← hD, Dg.decS, decB, dec_eq n hn]
  subst e
  exact itoa_any _ n rfl hn w he
set_option maxHeartbeats 400000 in
theorem start_any (s : ByteArray) (i k : Nat) (hs : s.size ≤ 1073741824) (hi : i ≤ 1048576) (hk : k ≤ 1048576) (R : ByteArray) (hR : Dg.startB s i k = R) (w : World) (he : Env w) :
    Calls Tryd.prog 34 #[.string s, .int .i64 i, .int .i64 k] w fun e w' => e = .returned (.string R) ∧ Below w.heap.size w w' := by
  have z1 := Dg.decS_size i
  have z2 := Dg.decS_size k
  unfold Dg.startB at hR
  generalize h1 : Dg.decS i = D1 at *
  generalize h2 : Dg.decS k = D2 at *
  have H1 := hide h1; have H2 := hide h2; have HR := hide hR; clear h1 h2 hR
  have hm := hide (mem3 (a := s) (b := D1) (c := D2) (n := 1073741824) hs (by omega) (by omega))
  go_enter Tryd.func34, Tryd.ntmps34
  go_wp2_with fail
  refine (itoa_of i D1 H1.out (by omega) w he).mono ?_
  rintro e w1 ⟨rfl, hb1⟩
  go_wp2_with fail
  refine (itoa_of k D2 H2.out (by omega) w1 (he.next hb1)).mono ?_
  rintro e w2 ⟨rfl, hb2⟩
  have hb := bnext hb1 hb2
  go_wp2_with fail
  refine (of_new [s, D1, D2] _ _ 3 _ rfl (len3 _ _ _) hm.out R HR.out w2 (he.next hb) rfl _ rfl).mono ?_
  rintro e w3 ⟨rfl, hb3⟩
  go_wp2
  go_ret
  exact ⟨rfl, bnext hb hb3⟩
theorem startB_size (s : ByteArray) (i k : Nat) : (Dg.startB s i k).size = 16 := listB_size _
def endsTo (s : ByteArray) (i k : Nat) : List ByteArray := (List.range k).map fun j => Dg.ch s i j 15
theorem endsTo_len (s : ByteArray) (i k : Nat) : (endsTo s i k).length = k := by rw [endsTo, List.length_map, List.length_range]
theorem endsTo_succ (s : ByteArray) (i k : Nat) : endsTo s i (k + 1) = endsTo s i k ++ [Dg.ch s i k 15] := by rw [endsTo, List.range_succ, List.map_append]; rfl
theorem joined_16 (l : List ByteArray) (h1 : l.length ≤ 1000) (h : ∀ s ∈ l, s.size ≤ 1048576) : (Dg.joinedL l).length ≤ 1099511627776 := by
  have h2 := Dg.joinedL_len_le l 1048576 h
  have : l.length * (1048576 + 21) ≤ 1000 * (1048576 + 21) := Nat.mul_le_mul_right _ h1
  omega
set_option maxRecDepth 100000 in
set_option maxHeartbeats 1000000 in
theorem key_any (s : ByteArray) (i : Nat) (hs : s.size ≤ 1073741824) (hi : i ≤ 1048576) (R : ByteArray) (hR : Dg.keyB s i = R) (w : World) (he : Env w) :
    Calls Tryd.prog 57 #[.string s, .int .i64 i] w fun e w' => e = .returned (.string R) ∧ Below w.heap.size w w' := by
  have HR := hide hR; clear hR
  go_enter Tryd.func57, Tryd.ntmps57
  go_wp2
  go_loopw [5, 7] (fun v iv wr => ∃ k : Nat, k ≤ 18 ∧ iv = .int .i64 k ∧ Below w.heap.size w wr ∧ OwnS wr w.heap.size v (endsTo s i k)) (fun _ iv _ => 18 - (intOf iv).toNat)
  case atStart => exact ⟨0, by omega, rfl, Below.refl _ _, OwnS.nil _ _⟩
  case round =>
    obtain ⟨k, hk, rfl, hb, hO⟩ := hrel
    by_cases hlt : k < 18
    · have hst := startB_size s i k
      have hes := hide (endsTo_succ s i k)
      have hel : (endsTo s i k).length < 1099511627776 := by rw [endsTo_len]; omega
      generalize hc : Dg.ch s i k 15 = C at *
      have HC := hide (show Dg.chainB (Dg.startB s i k) 15 = C from hc); clear hc
      generalize hS : Dg.startB s i k = S0 at *
      have HS := hide hS; clear hS
      generalize endsTo s i k = q at *
      go_wp2_with fail
      refine (start_any s i k hs hi (by omega) S0 HS.out _ (he.next hb)).mono ?_
      rintro e w1 ⟨rfl, hb1⟩
      have hb' := bnext hb hb1
      go_wp2_with fail
      refine (chain_of S0 15 15 rfl C HC.out (by omega) _).mono ?_
      rintro e w2 ⟨rfl, hb2⟩
      have hb'' := bnext hb' hb2
      have hO2 := (hO.below hb1).below hb2
      go_wp2_with (at_builtin; refine step_s w2 rfl (.tmp 10) (.tmp 16) rfl C w.heap.size _ q rfl hO2 rfl hel hb''.size ?_; intro v' w3 hO3 hb3)
      go_roundw
      case rel => exact ⟨k + 1, by omega, by go_num, hb''.trans hb3, by rw [hes.out]; exact hO3⟩
      case measure => simp [intOf]; omega
    · obtain rfl : k = 18 := by omega
      obtain ⟨A, c, rfl, hc, hS⟩ := hO.strs
      have hel := endsTo_len s i 18
      have hj := joined_16 (endsTo s i 18) (by omega) (fun x hx => by rw [Dg.endsOf_size s i x hx]; decide)
      have HK : Hid (Dg.listB (endsTo s i 18) = R) := HR.out
      have hz := hide (fun x (hx : x ∈ endsTo s i 18) => (by rw [Dg.endsOf_size s i x hx]; decide : x.size ≤ 1099511627776))
      have hlen : Hid ((endsTo s i 18).length = 18) := hel
      clear hO
      generalize endsTo s i 18 = q at *
      go_wp2_with fail
      refine (of_of A c 18 q hlen.out R HK.out _ (he.next hb) (by omega) hj hz.out hS).mono ?_
      rintro e w1 ⟨rfl, hb1⟩
      go_wp2
      go_ret
      exact ⟨rfl, bnext hb hb1⟩
end Go.Proofs.YtgncahnkkpjdpaaDoor
/- digits of package seal: the iterator. -/
namespace Go.Proofs.YtgncahnkkpjdpaaDoor
open Go Go.RowKit Go.Sort
attribute [local go_sem] Oper.semAt_some
/-- The digits with the numbers of their chains. -/
def digTo (m : ByteArray) (k : Nat) : List (Nat × Nat) := (List.range k).map fun j => (j, Dg.dig m j)
theorem digTo_len (m : ByteArray) (k : Nat) : (digTo m k).length = k := by rw [digTo, List.length_map, List.length_range]
theorem digTo_succ (m : ByteArray) (k : Nat) : digTo m (k + 1) = digTo m k ++ [(k, Dg.dig m k)] := by rw [digTo, List.range_succ, List.map_append]; rfl
def hexB : ByteArray := ⟨#[48, 49, 50, 51, 52, 53, 54, 55, 56, 57, 97, 98, 99, 100, 101, 102]⟩
theorem indexByte_hex (d : Nat) (hd : d < 16) : Lib.indexByte hexB.data.toList (Dg.hexDigit d) = d := by
  have : ∀ d, d < 16 → Lib.indexByte hexB.data.toList (Dg.hexDigit d) = d := by decide +kernel
  exact this d hd
theorem sumB_get (m : ByteArray) (k : Nat) (hk : k < 16) : (Dg.L (Dg.sumB m))[k]? = some (Dg.hexDigit (Dg.dgt m k)) := by
  unfold Dg.sumB Dg.sum Dg.hex
  rw [Dg.L_B, Dg.hexTo_get _ _ _ hk]; rfl
def encD (x : Nat × Nat) : Array Value := #[.int .i64 (x.1 : Int), .int .i64 (x.2 : Int)]
theorem get_of_L (S : ByteArray) (k d : Nat) (h : (Dg.L S)[k]? = some (Dg.hexDigit d)) (hk : k < S.size) : S[k] = Dg.hexDigit d := by
  have h1 : (Dg.L S)[k]? = some S[k] := by
    show S.data.toList[k]? = _
    rw [Array.getElem?_toList]
    exact Array.getElem?_eq_getElem hk
  exact Option.some.inj (h1.symm.trans h)
theorem hexpos (c : UInt8) (d : Nat) (hd : d < 16) (hc : c = Dg.hexDigit d) (w : World) :
    Calls Tryd.prog 59 #[.string ⟨#[48, 49, 50, 51, 52, 53, 54, 55, 56, 57, 97, 98, 99, 100, 101, 102]⟩, .int .u8 (c.toNat : Int)] w fun e w' => e = .returned (.int .i64 (d : Int)) ∧ w' = w := by
  subst hc
  refine (Tryd.strings_IndexByte _ _ w).mono ?_
  rintro e w' ⟨rfl, rfl⟩
  have h1 : ((Dg.hexDigit d).toNat : Int).toNat.toUInt8 = Dg.hexDigit d := by simp
  rw [h1]
  exact ⟨by rw [← indexByte_hex d hd]; rfl, rfl⟩
set_option maxRecDepth 100000 in
set_option maxHeartbeats 1000000 in
theorem digits1_in (n : Nat) (hn : 2 ≤ n) (m : ByteArray) (hm : m.size ≤ 9223372036854775807) (l Bn : Nat) (J Jx : List (Nat × Nat) → World → Prop)
    (hY : ∀ pre x W, x.1 < 18 ∧ x.2 ≤ 15 → J pre W → pre.length < 18 → YieldAt Fence.wide (n - 1) Tryd.prog l (encD x) W fun e W' => (e = .returned (.bool true) ∧ J (pre ++ [x]) W') ∨ (e = .returned (.bool false) ∧ Jx (pre ++ [x]) W'))
    (W : World) (hB : W.cell? ⟨Bn, 0, none⟩ = some (.string m)) (h0 : ∀ W', Below W.heap.size W W' → J [] W') :
    CallsIn Fence.wide n Tryd.prog 58 #[.func (.yield l) #[] #[], .pointer (some ⟨Bn, 0, none⟩)] W fun e W' => (∃ v, e = .returned v) ∧ ((∃ ys, ys = digTo m 18 ∧ J ys W') ∨ (∃ pre, True ∧ Jx pre W')) := by
  refine callsIn_of_wp Tryd.func58 rfl trivial ?_ rfl
  simp only [Tryd.ntmps58, List.size_toArray, List.length_cons, List.length_nil, Nat.reduceAdd, Nat.reduceSub, Array.replicate_succ, Array.replicate_zero, List.push_toArray, List.append_toArray, List.nil_append, List.cons_append]
  have hsz := Dg.sumB_size m
  generalize hS : Dg.sumB m = S at *
  have HS := hide hS; clear hS
  gi_wp2_with (refine ⟨trivial, fun _ => (by omega), ?_⟩; gi_at_call 19; refine (callsIn_wide.2 (sum_of m S HS.out hm _)).mono ?_; rintro e w1 ⟨rfl, hb1⟩)
  have h0' := h0 w1 hb1
  clear h0 hB hb1
  gi_loopw [3, 11] (fun rv iv wr => ∃ k : Nat, k ≤ 16 ∧ rv = .int .i64 (Dg.restTo m k : Nat) ∧ iv = .int .i64 k ∧ J (digTo m k) wr) (fun _ iv _ => 16 - (intOf iv).toNat)
  case atStart => exact ⟨0, by omega, rfl, rfl, h0'⟩
  case round =>
    obtain ⟨k, hk, rfl, rfl, hJ⟩ := hrel
    have hrl := Dg.restTo_le m k
    by_cases hlt : k < 16
    · have hg := sumB_get m k hlt
      have hdl := Dg.dgt_lt m k
      have hrs : Dg.restTo m (k + 1) = Dg.restTo m k + (15 - Dg.dgt m k) := rfl
      have hlo := Dg.dig_lo m k hlt
      rw [HS.out] at hg
      have hY1 := hide (hY (digTo m k) (k, Dg.dig m k))
      have hds := hide (digTo_succ m k)
      rw [hlo] at hY1 hds
      clear hlo
      generalize Dg.dgt m k = d at *
      have hg' := hide (get_of_L S k d hg (by omega)); have hrs' := hide hrs; clear hg hrs
      generalize Dg.restTo m k = r at *
      obtain ⟨fn, tmps, assign, body, hy, hRd⟩ := hY1.out wr (show k < 18 ∧ d ≤ 15 from ⟨by omega, by omega⟩) hJ (by rw [digTo_len]; omega)
      dsimp only [encD] at hy
      gi_wp2_with (refine ⟨trivial, fun _ => (by omega), ?_⟩; gi_at_call 59; refine (callsIn_wide.2 (hexpos _ d hdl hg'.out _)).mono ?_; rintro e w' ⟨rfl, rfl⟩)
      refine ⟨fun _ => by omega, ?_⟩
      refine hRd.mono ?_
      rintro e W3 (⟨rfl, hJ3⟩ | ⟨rfl, hJ3⟩)
      · rw [← hds.out] at hJ3
        gi_wp2
        go_roundw
        case rel => exact ⟨k + 1, by omega, by rw [hrs'.out]; go_num, by go_num, hJ3⟩
        case measure => simp [intOf]; omega
      · gi_wp2
        refine bodyPost_ret (results_none rfl _ _ _) rfl ?_
        exact ⟨⟨_, rfl⟩, .inr ⟨_, trivial, hJ3⟩⟩
    · obtain rfl : k = 16 := by omega
      have hY1 := hide (hY (digTo m 16) (16, Dg.dig m 16))
      have hY2 := hide (hY (digTo m 17) (17, Dg.dig m 17))
      have hds := hide (digTo_succ m 16)
      have hds2 := hide (digTo_succ m 17)
      rw [Dg.dig_16] at hY1 hds
      rw [Dg.dig_17] at hY2 hds2
      generalize Dg.restTo m 16 = r at *
      obtain ⟨fn, tmps, assign, body, hy, hRd⟩ := hY1.out wr (show 16 < 18 ∧ r / 16 ≤ 15 from ⟨by omega, by omega⟩) hJ (by rw [digTo_len]; omega)
      dsimp only [encD] at hy
      have e1 : ((r / 16 : Nat) : Int) = (r : Int) / 16 := by omega
      have e2 : ((r % 16 : Nat) : Int) = (r : Int) % 16 := by omega
      have hy : (Instr.yield l #[.int .i64 16, .int .i64 ((r : Int) / 16)]).run Tryd.prog wr = .ok (.round l fn tmps assign body) wr := by rw [← e1]; exact hy
      clear e1
      gi_wp2
      refine ⟨fun _ => by omega, ?_⟩
      refine hRd.mono ?_
      rintro e W3 (⟨rfl, hJ3⟩ | ⟨rfl, hJ3⟩)
      · rw [← hds.out] at hJ3
        obtain ⟨fn2, tmps2, assign2, body2, hy2, hRd2⟩ := hY2.out W3 (show 17 < 18 ∧ r % 16 ≤ 15 from ⟨by omega, by omega⟩) hJ3 (by rw [digTo_len]; omega)
        dsimp only [encD] at hy2
        have hy2 : (Instr.yield l #[.int .i64 17, .int .i64 ((r : Int) % 16)]).run Tryd.prog W3 = .ok (.round l fn2 tmps2 assign2 body2) W3 := by rw [← e2]; exact hy2
        clear e2
        gi_wp2
        refine ⟨fun _ => by omega, ?_⟩
        refine hRd2.mono ?_
        rintro e W4 (⟨rfl, hJ4⟩ | ⟨rfl, hJ4⟩)
        · rw [← hds2.out] at hJ4
          gi_wp2
          go_end0
          exact ⟨⟨_, rfl⟩, .inl ⟨_, rfl, hJ4⟩⟩
        · gi_wp2
          go_end0
          exact ⟨⟨_, rfl⟩, .inr ⟨_, trivial, hJ4⟩⟩
      · gi_wp2
        go_end0
        exact ⟨⟨_, rfl⟩, .inr ⟨_, trivial, hJ3⟩⟩
end Go.Proofs.YtgncahnkkpjdpaaDoor
/- odd of Verify: slices.ContainsFunc of strings at its closure; digits as a function value. -/
namespace Go.Proofs.YtgncahnkkpjdpaaDoor
open Go Go.RowKit Go.Sort
theorem snotdig_any (s : ByteArray) (r : Bool) (hr : Dg.isB s = r) (hs : s.size ≤ 4611686018427387904) (w : World) :
    Calls Tryd.prog 40 #[.string s] w fun e w' => e = .returned (.bool (!r)) ∧ Below w.heap.size w w' := by
  go_enter Tryd.func40, Tryd.ntmps40
  go_wp2_with fail
  refine (is_of s r hr hs w).mono ?_
  rintro e w1 ⟨rfl, hb⟩
  clear hr
  go_wp2
  go_ret
  exact ⟨rfl, hb⟩
set_option maxHeartbeats 400000 in
theorem sindex_any (A : Option Addr) (c n : Nat) (l : List ByteArray) (R : Bool) (hR : allDig l = R) (w : World) (hl : l.length = n) (hn : n ≤ 1099511627776) (hs : ∀ s ∈ l, s.size ≤ 4611686018427387904) (hr : Strs w w.heap.size A l) :
    Calls Tryd.prog 62 #[.slice A n c, .func (.func 40) #[] #[]] w fun e w' => (∃ k : Int, e = .returned (.int .i64 k) ∧ decide (k ≥ 0) = !R) ∧ Below w.heap.size w w' := by
  subst hl
  have HR := hide hR; clear hR
  go_enter Tryd.func62, Tryd.ntmps62
  go_wp2
  go_loopw [8] (fun i wr => ∃ k : Nat, k ≤ l.length ∧ i = .int .i64 k ∧ Below w.heap.size w wr ∧ Hid (∀ s ∈ l.take k, Dg.isB s = true)) (fun i _ => l.length - (intOf i).toNat)
  case atStart => exact ⟨0, by omega, rfl, Below.refl _ _, by unfold Hid; simp⟩
  case round =>
    obtain ⟨k, hk, rfl, hb, hall⟩ := hrel
    by_cases hlt : k < l.length
    · obtain ⟨b, off, rfl, hbl, hcell⟩ := (hr.below hb).get hlt
      have hsz := hs l[k] (List.getElem_mem hlt)
      have hts := hide (List.take_succ_eq_append_getElem hlt)
      have hm := hide (List.getElem_mem hlt)
      generalize l[k] = x at *
      go_wp2_with fail
      cases hx : Dg.isB x with
      | true =>
        refine (snotdig_any x true hx hsz _).mono ?_
        rintro e w1 ⟨rfl, hb1⟩
        have hb2 := bnext hb hb1
        have hx' := hide hx; clear hx
        go_wp2
        go_roundw
        case rel =>
          refine ⟨k + 1, by omega, by go_num, hb2, ?_⟩
          unfold Hid
          rw [hts.out]
          intro s hs'
          rcases List.mem_append.1 hs' with h | h
          · exact hall.out s h
          · obtain rfl : s = x := by simpa using h
            exact hx'.out
        case measure => simp [intOf]; omega
      | false =>
        refine (snotdig_any x false hx hsz _).mono ?_
        rintro e w1 ⟨rfl, hb1⟩
        have hb2 := bnext hb hb1
        have hx' := hide hx; clear hx
        go_wp2
        go_ret
        have := (allDig_no l x hm.out hx'.out).symm.trans HR.out
        subst this
        exact ⟨⟨_, rfl, by simp⟩, hb2⟩
    · obtain rfl : k = l.length := by omega
      go_wp2
      go_ret
      have h := hall.out
      rw [List.take_length] at h
      have := (allDig_yes l h).symm.trans HR.out
      subst this
      exact ⟨⟨_, rfl, by simp⟩, hb⟩
theorem scontains_any (A : Option Addr) (c n : Nat) (l : List ByteArray) (R : Bool) (hR : allDig l = R) (w : World) (hl : l.length = n) (hn : n ≤ 1099511627776) (hs : ∀ s ∈ l, s.size ≤ 4611686018427387904) (hr : Strs w w.heap.size A l) :
    Calls Tryd.prog 39 #[.slice A n c, .func (.func 40) #[] #[]] w fun e w' => e = .returned (.bool (!R)) ∧ Below w.heap.size w w' := by
  go_enter Tryd.func39, Tryd.ntmps39
  go_wp2_with fail
  refine (sindex_any A c n l R hR w hl hn hs hr).mono ?_
  rintro e w1 ⟨⟨k, rfl, hk⟩, hb⟩
  have hk' := hide hk; clear hk hR
  go_wp2
  go_ret
  exact ⟨ret_bool (by have := hk'.out; simpa using this), hb⟩
theorem odd_any (A : Option Addr) (c n : Nat) (l : List ByteArray) (R : Bool) (hR : allDig l = R) (w : World) (hl : l.length = n) (hn : n ≤ 1099511627776) (hs : ∀ s ∈ l, s.size ≤ 4611686018427387904) (hr : Strs w w.heap.size A l) :
    Calls Tryd.prog 38 #[.slice A n c] w fun e w' => e = .returned (.bool (!R)) ∧ Below w.heap.size w w' := by
  go_enter Tryd.func38, Tryd.ntmps38
  go_wp2_with fail
  refine (scontains_any A c n l R hR w hl hn hs hr).mono ?_
  rintro e w1 ⟨rfl, hb⟩
  clear hR
  go_wp2
  go_ret
  exact ⟨rfl, hb⟩
theorem sdigits_any (m : ByteArray) (w : World) :
    Calls Tryd.prog 32 #[.string m] w fun e w' => e = .returned (.func (.func 58) #[] #[.pointer (some ⟨w.heap.size, 0, none⟩)]) ∧ w' = w.alloc (.cells #[.string m] 9) := by
  go_enter Tryd.func32, Tryd.ntmps32
  go_wp2
  go_ret
  exact ⟨rfl, rfl⟩
/-- A digit with the number of its chain. -/
abbrev DigP := {x : Nat × Nat // x.1 < 18 ∧ x.2 ≤ 15}
/-- digits hands out all digits in order, or stops where a round has said so. -/
theorem digits_stops (n : Nat) (hn : 2 ≤ n) (m : ByteArray) (hm : m.size ≤ 9223372036854775807) (Bn : Nat) (w : World) (hBn : Bn < w.heap.size) (hc : w.cell? ⟨Bn, 0, none⟩ = some (.string m)) :
    SeqStopsK Fence.wide n Tryd.prog 58 #[.pointer (some ⟨Bn, 0, none⟩)] (fun x : DigP => encD x.1) (fun _ _ => True) (fun ys => ys.map Subtype.val = digTo m 18) (fun _ => True) 18 w := by
  intro l J Jx W hW hJ hJx hY h0
  refine (digits1_in n hn m hm l Bn (fun pre W => ∃ p : List DigP, p.map Subtype.val = pre ∧ J p W) (fun _ W => ∃ p : List DigP, Jx p W) (fun pre x W1 hx h1 h2 => ?_) W ((hW.cell (p := ⟨Bn, 0, none⟩) hBn).trans hc) (fun W' hb => ⟨[], rfl, hJ _ _ _ none h0 ⟨hb.os, hb.tape, hb.output, hb.size, fun k hk _ => hb.block k hk⟩ (fun r e => by cases e)⟩)).mono ?_
  · obtain ⟨p, rfl, h1⟩ := h1
    rw [List.length_map] at h2
    obtain ⟨fn, tmps, assign, body, hy, hR⟩ := hY p ⟨x, hx⟩ W1 h1 h2
    refine ⟨fn, tmps, assign, body, hy, hR.mono ?_⟩
    rintro e W' (⟨h3, h4, _⟩ | ⟨h3, h4⟩)
    · exact Or.inl ⟨h3, _, by rw [List.map_append]; rfl, h4⟩
    · exact Or.inr ⟨h3, _, h4⟩
  · rintro e W' ⟨h1, ⟨ys, rfl, p, h2, h3⟩ | ⟨pre, _, p, h2⟩⟩
    · exact ⟨h1, .inl ⟨p, h2, h3⟩⟩
    · exact ⟨h1, .inr ⟨p, trivial, h2⟩⟩
end Go.Proofs.YtgncahnkkpjdpaaDoor
/- Check, long, both and Extends of the reference. -/
namespace Go.Proofs.YtgncahnkkpjdpaaDoor
open Go Go.RowKit Go.Sort
theorem ieq_t {a b : Int} (h : a = b) : (a == b) = true := beq_iff_eq.2 h
theorem ine_f {a b : Int} (h : a = b) : (a != b) = false := by rw [bne, ieq_t h]; rfl
theorem ieq_f {a b : Int} (h : a ≠ b) : (a == b) = false := beq_eq_false_iff_ne.2 h
theorem ine_t {a b : Int} (h : a ≠ b) : (a != b) = true := by rw [bne, ieq_f h]; rfl
theorem bothW_le (m : Nat) (h16 : 16 ≤ m) (w : List Bool) : ∀ (whole : Bool) (old : ByteArray) (r : List ByteArray), old.size ≤ m → (∀ s ∈ r, s.size ≤ m) → (Dg.bothW w whole old r).1.size ≤ m ∧ (Dg.bothW w whole old r).2.size ≤ m := by
  have hd : ∀ r : List ByteArray, (∀ s ∈ r, s.size ≤ m) → (r.headD ⟨#[]⟩).size ≤ m := fun r h => by
    cases r with
    | nil => exact Nat.zero_le _
    | cons a r => exact h a (List.mem_cons_self ..)
  induction w with
  | nil =>
    intro whole old r ho hr
    rw [Dg.bothW]
    split
    · exact ⟨ho, ho⟩
    · exact ⟨hd r hr, hd r hr⟩
  | cons b w ih =>
    intro whole old r ho hr
    have hn : ∀ x y, (Dg.nodeB x y).size ≤ m := fun x y => by rw [Dg.nodeB, listB_size]; exact h16
    cases b with
    | true => exact ⟨(ih _ _ _ ho fun s hs => hr s (List.mem_of_mem_tail hs)).1, hn _ _⟩
    | false => exact ⟨hn _ _, hn _ _⟩
theorem rtake_mem {p : List ByteArray} {m : Nat} (h : ∀ s ∈ p, s.size ≤ m) (k : Nat) : ∀ s ∈ (p.take k).reverse, s.size ≤ m := fun s hs => h s (List.mem_of_mem_take (List.mem_reverse.1 hs))
end Go.Proofs.YtgncahnkkpjdpaaDoor
/- Extends of the reference. -/
namespace Go.Proofs.YtgncahnkkpjdpaaDoor
open Go Go.RowKit Go.Sort
theorem extB_all (old : ByteArray) (root : ByteArray) (N : Nat) (p : List ByteArray) (h0 : N ≠ 0) (hd : allDig p = true) (hd2 : allDig [old, root] = true) (hN : N ≤ 1000000) : extB old N root N p = (decide (p.length = 0) && decide (old = root)) := by
  unfold extB
  rw [hd, hd2, decide_eq_true (show (0 : Int) ≤ N ∧ (N : Int) ≤ N ∧ (N : Int) ≤ 1000000 by omega), if_neg (by omega), Int.toNat_natCast, Dg.long_all, Dg.both_all, Bool.true_and, Bool.true_and, Bool.true_and, if_pos rfl, if_pos rfl, decide_eq_true (show (old, old).1 = old from rfl), Bool.true_and]
end Go.Proofs.YtgncahnkkpjdpaaDoor
/- Texts of the reference: the strings that are digested for a root. -/
namespace Go.Proofs.YtgncahnkkpjdpaaDoor
open Go Go.RowKit Go.Sort
theorem add_off0 (g j : Nat) : (⟨g, 0, none⟩ : Addr).add j = ⟨g, j, none⟩ := by rw [addr_off, Nat.zero_add]
theorem jB_size (l : List ByteArray) (h3 : l.length ≤ 3) (h : ∀ s ∈ l, s.size ≤ 1048576) : (Dg.jB l).size ≤ 4194304 := by
  rw [Dg.jB, Dg.size_B]
  have h1 := Dg.joinedL_len_le l 1048576 h
  have h2 : l.length * (1048576 + 21) ≤ 3 * (1048576 + 21) := Nat.mul_le_mul_right _ h3
  omega
theorem texts_len (n : Nat) : ∀ l : List ByteArray, l.length = n → 1 ≤ (Dg.texts l).length ∧ (Dg.texts l).length ≤ 2 * n + 1 ∧ (1 ≤ n → (Dg.texts l).length ≤ 2 * n - 1) := by
  induction n using Nat.strongRecOn with
  | _ n ih =>
  intro l hl
  by_cases h0 : n = 0
  · obtain rfl : l = [] := List.length_eq_zero_iff.1 (hl.trans h0)
    rw [Dg.texts_nil]
    simp
    omega
  by_cases h1 : n = 1
  · obtain ⟨x, rfl⟩ : ∃ s, l = [s] := List.length_eq_one_iff.1 (hl.trans h1)
    rw [Dg.texts_one]
    simp
    omega
  have g1 := Dg.half_pos n
  have g2 := Dg.half_lt n (by omega)
  rw [Dg.texts_more l (by omega), hl, List.length_append, List.length_append, List.length_singleton]
  have a := ih (Dg.half n) g2 (l.take (Dg.half n)) (by rw [List.length_take]; omega)
  have b := ih (n - Dg.half n) (by omega) (l.drop (Dg.half n)) (by rw [List.length_drop]; omega)
  have a2 := a.2.2 (by omega)
  have b2 := b.2.2 (by omega)
  omega
theorem texts_size (n : Nat) : ∀ l : List ByteArray, l.length = n → (∀ s ∈ l, s.size ≤ 1048576) → ∀ t ∈ Dg.texts l, t.size ≤ 4194304 := by
  induction n using Nat.strongRecOn with
  | _ n ih =>
  intro l hl hs t ht
  by_cases h0 : n = 0
  · obtain rfl : l = [] := List.length_eq_zero_iff.1 (hl.trans h0)
    rw [Dg.texts_nil, List.mem_singleton] at ht
    rw [ht]; exact jB_size _ (by simp) (mem1 (by decide))
  by_cases h1 : n = 1
  · obtain ⟨x, rfl⟩ : ∃ s, l = [s] := List.length_eq_one_iff.1 (hl.trans h1)
    rw [Dg.texts_one, List.mem_singleton] at ht
    rw [ht]; exact jB_size _ (by simp) (mem2 (by decide) (hs x (by simp)))
  have g1 := Dg.half_pos n
  have g2 := Dg.half_lt n (by omega)
  rw [Dg.texts_more l (by omega), hl] at ht
  rcases List.mem_append.1 ht with ht | ht
  · rcases List.mem_append.1 ht with ht | ht
    · exact ih (Dg.half n) g2 (l.take (Dg.half n)) (by rw [List.length_take]; omega) (fun s hs' => hs s (List.mem_of_mem_take hs')) t ht
    · exact ih (n - Dg.half n) (by omega) (l.drop (Dg.half n)) (by rw [List.length_drop]; omega) (fun s hs' => hs s (List.mem_of_mem_drop hs')) t ht
  · rw [List.mem_singleton] at ht
    rw [ht]; exact jB_size _ (by simp) (mem3 (by decide) (by rw [root_size]; decide) (by rw [root_size]; decide))
/-- A slice of the call's own that is not empty. -/
theorem OwnS.full {w : World} {B : Nat} {v : Value} {l : List ByteArray} (h : OwnS w B v l) (h0 : 0 < l.length) : ∃ g cap, v = .slice (some ⟨g, 0, none⟩) l.length cap ∧ B ≤ g ∧ g < w.heap.size := by
  rcases h.cases with ⟨_, rfl⟩ | ⟨g, cap, h1, h2, h3, _⟩
  · simp at h0
  · exact ⟨g, cap, h1, h2, h3⟩
theorem OwnS.getc {w : World} {B g n cap : Nat} {l : List ByteArray} (h : OwnS w B (.slice (some ⟨g, 0, none⟩) n cap) l) : ∀ j (s : ByteArray), l[j]? = some s → w.cell? ⟨g, j, none⟩ = some (.string s) := by
  rcases h.cases with ⟨h, _⟩ | ⟨g', cap', h1, h2, h3, _, h4, _⟩
  · injection h with h _ _; cases h
  · injection h1 with h1 _ _
    injection h1 with h1
    injection h1 with h1 _ _
    subst h1
    exact h4
/-- A list of strings onto strings of the call's own, at a step of a region that draws its order. -/
theorem step_ld {w : World} {ops : Array Oper} {o : Oper} {a : Act} {K : Act → World → Prop} {Q : Exit → Act → World → Prop} {E : Prop} (hgd : o.guard = none) (sl x : Operand)
    (ho : o.op = .call { callee := .builtin .append, args := #[sl, x], argTypes := #[22, 22] })
    (B B' : Nat) (v : Value) (l l' : List ByteArray) (hs : a.eval sl = v) (hown : OwnS w B v l) (g' cap' : Nat) (hx : a.eval x = .slice (some ⟨g', 0, none⟩) l'.length cap') (hown' : OwnS w B' (.slice (some ⟨g', 0, none⟩) l'.length cap') l')
    (h0 : 0 < l'.length) (hlen : l.length + l'.length < 1099511627776) (hB : B ≤ w.heap.size)
    (h : ∀ g cap w', OwnS w' B (.slice (some ⟨g, 0, none⟩) (l.length + l'.length) cap) (l ++ l') → Below B w w' → w.grownBy w' v.ownBlock → (v.ownBlock = some g ∨ g = w.heap.size) → K (a.put o.dst (.slice (some ⟨g, 0, none⟩) (l.length + l'.length) cap)) w') :
    if Region.wanted o (yielded ops a.tmps) = true then Oper.wp Tryd.prog o a w K Q else E := by
  obtain ⟨i, h1, h2, h3, h4⟩ := info_parts strInfo
  unfold OwnS OwnV at hown
  rw [List.length_map] at hown
  have hat := hown'.getc
  refine step_append_lies w hgd sl x 22 ho B 9 i _ 1 16 Tryd.underlying22 h1 h2 h3 h4 rfl (by omega) v l.length _ hs hown ⟨g', 0, none⟩ l'.length cap' (l'.map .string) hx (by rw [List.length_map, Nat.mul_one]) ?_ ?_ h0 (by unfold maxLen; omega) (by omega) hB w.heap.size rfl fun g cap w' h5 h6 h7 _ => h g cap w' ?_ (below_own hown h6 hB) h6 h7
  · intro j u' hj
    rw [List.getElem?_map] at hj
    cases hq : l'[j]? with
    | none => rw [hq] at hj; cases hj
    | some s =>
      rw [hq] at hj
      obtain rfl : Value.string s = u' := by simpa using hj
      rw [add_off0]
      exact hat j s hq
  · intro u' hu'
    obtain ⟨s, _, rfl⟩ := List.mem_map.1 hu'
    rfl
  · unfold OwnS OwnV
    rw [List.length_map, List.length_append, List.map_append]
    exact h5
end Go.Proofs.YtgncahnkkpjdpaaDoor
/- keys, Public of package seal. -/
namespace Go.Proofs.YtgncahnkkpjdpaaDoor
open Go Go.RowKit Go.Sort
theorem pow_wrap (h n : Nat) (hn : 2 ^ h = n) (hh : h ≤ 62) : wrap64 (2 ^ h) = (n : Int) := by
  have := Nat.pow_le_pow_right (n := 2) (by omega) hh
  have h2 : 2 ^ 62 = 4611686018427387904 := by decide
  rw [show (2 : Int) ^ h = (n : Int) by rw [← hn]; push_cast; rfl, IntWalk.wrap64_in _ (by omega)]
theorem pow_le8 (h : Nat) (hh : h ≤ 8) : 2 ^ h ≤ 256 := Nat.pow_le_pow_right (n := 2) (by omega) hh
/-- The keys as far as they are laid. -/
def keysTo (s : ByteArray) (n k : Nat) : List ByteArray := (List.range n).map fun j => if j < k then Dg.keyB s j else ⟨#[]⟩
theorem keysTo_len (s : ByteArray) (n k : Nat) : (keysTo s n k).length = n := by rw [keysTo, List.length_map, List.length_range]
theorem keysTo_zero (s : ByteArray) (n : Nat) : keysTo s n 0 = List.replicate n ⟨#[]⟩ := by
  apply List.ext_getElem
  · rw [keysTo_len, List.length_replicate]
  · intro j h1 h2
    rw [List.getElem_replicate]
    simp [keysTo]
theorem keysTo_get (s : ByteArray) (n k j : Nat) (hj : j < n) : (keysTo s n k)[j]? = some (if j < k then Dg.keyB s j else ⟨#[]⟩) := by
  rw [keysTo, List.getElem?_map, List.getElem?_range hj]; rfl
theorem keysTo_succ (s : ByteArray) (n k : Nat) (hk : k < n) : (keysTo s n k).set k (Dg.keyB s k) = keysTo s n (k + 1) := by
  apply List.ext_getElem?
  intro j
  by_cases hj : j < n
  · rw [List.getElem?_set, keysTo_get _ _ _ _ hj, keysTo_get _ _ _ _ hj, keysTo_len]
    by_cases h : k = j
    · subst h; simp [hk]
    · rw [if_neg h]
      by_cases h2 : j < k
      · rw [if_pos h2, if_pos (by omega)]
      · rw [if_neg h2, if_neg (by omega)]
  · rw [List.getElem?_eq_none (by rw [List.length_set, keysTo_len]; omega), List.getElem?_eq_none (by rw [keysTo_len]; omega)]
theorem keysTo_all (s : ByteArray) (h n : Nat) (hn : 2 ^ h = n) : keysTo s n n = Dg.keysB s h := by
  subst hn
  unfold keysTo Dg.keysB
  apply List.map_congr_left
  intro k hk
  rw [if_pos (List.mem_range.1 hk)]
theorem OwnS.set {w : World} {B g n cap : Nat} {l : List ByteArray} (h : OwnS w B (.slice (some ⟨g, 0, none⟩) n cap) l) (j : Nat) (s : ByteArray) : OwnS (w.setCell ⟨g, j, none⟩ (.string s)) B (.slice (some ⟨g, 0, none⟩) n cap) (l.set j s) := by
  have hn : (l.map Value.string).length = n := by
    have h1 := h
    obtain ⟨_, _, h2⟩ := OwnV.form h1
    injection h2 with _ h3 _
    exact h3.symm
  unfold OwnS OwnV at *
  rw [List.map_set, List.length_set]
  rw [hn] at h ⊢
  exact (h.stored j _).1
theorem OwnS.frz {w : World} {B g n cap : Nat} {l : List ByteArray} (h : OwnS w B (.slice (some ⟨g, 0, none⟩) n cap) l) (j : Nat) : w.frozen? ⟨g, j, none⟩ = false := by
  rcases h.cases with ⟨h1, _⟩ | ⟨g', cap', h1, _, _, _, _, hf⟩
  · injection h1 with h2 _ _
    exact absurd h2 (by simp)
  · injection h1 with h2 _ _
    injection h2 with h3
    injection h3 with h4 _ _
    subst h4
    exact hf j
set_option maxRecDepth 100000 in
set_option maxHeartbeats 1000000 in
theorem keys_any (s : ByteArray) (h : Nat) (hs : s.size ≤ 1073741824) (hh : h ≤ 8) (w : World) (he : Env w) :
    Calls Tryd.prog 31 #[.string s, .int .i64 h] w fun e w' => ∃ v, e = .returned v ∧ OwnS w' w.heap.size v (Dg.keysB s h) ∧ Below w.heap.size w w' := by
  have h8 := pow_le8 h hh
  have hk := hide (keysTo_all s h (2 ^ h) rfl)
  have hw := hide (pow_wrap h (2 ^ h) rfl (by omega))
  generalize hn : 2 ^ h = n at *
  clear hn
  obtain ⟨i, h1, h2, h3, h4⟩ := info_parts strInfo
  go_enter Tryd.func31, Tryd.ntmps31
  go_wp2_with (at_make; go_loud (refine wpList_make_full _ rfl _ _ 22 rfl w.heap.size 9 i _ 1 Tryd.underlying22 h1 h2 h3 _ _ _ _ n rfl rfl hw.out hw.out (by rw [h4]; omega) (by unfold maxLen; omega) (Nat.le_refl _) ?_); intro w1 ho hgr)
  have hO : OwnS w1 w.heap.size (.slice (some ⟨w.heap.size, 0, none⟩) n n) (keysTo s n 0) := by
    unfold OwnS OwnV
    rw [keysTo_zero, List.map_replicate, List.length_replicate]
    have h5 := ho
    rw [show n * 1 = n by omega] at h5
    rw [← toList_madeCells_one]
    exact h5
  have hb1 : Below w.heap.size w w1 := below_own (World.ownsRow_nil w w.heap.size 9 1) hgr (Nat.le_refl _)
  clear ho hgr
  go_loopw [12] (fun iv wr => ∃ k : Nat, k ≤ n ∧ iv = .int .i64 k ∧ Below w.heap.size w wr ∧ OwnS wr w.heap.size (.slice (some ⟨w.heap.size, 0, none⟩) n n) (keysTo s n k)) (fun iv _ => n - (intOf iv).toNat)
  case atStart => exact ⟨0, by omega, rfl, hb1, hO⟩
  case round =>
    obtain ⟨k, hk2, rfl, hb, hO2⟩ := hrel
    by_cases hlt : k < n
    · have hst := hide (keysTo_succ s n k hlt)
      have hkg := keysTo_get s n k k hlt
      rw [if_neg (Nat.lt_irrefl k)] at hkg
      generalize hK : Dg.keyB s k = R at *
      have HK := hide hK; clear hK
      generalize keysTo s n k = q at *
      go_wp2_with fail
      refine (key_any s k hs (by omega) R HK.out _ (he.next hb)).mono ?_
      rintro e w2 ⟨rfl, hbk⟩
      have hb2 := bnext hb hbk
      have hO3 := hO2.below hbk
      have hcell := hO3.getc k _ hkg
      have hfr := OwnS.frz hO3 k
      have hset := hO3.set k R
      rw [hst.out] at hset
      have hbs : Below w.heap.size w (w2.setCell ⟨w.heap.size, k, none⟩ (.string R)) := hb2.setCell (p := ⟨w.heap.size, k, none⟩) (Nat.le_refl _) _
      clear hkg hO2 hO3
      go_wp2
      go_roundw
      case rel => exact ⟨k + 1, by omega, by go_num, hbs, hset⟩
      case measure => simp [intOf]; omega
    · obtain rfl : k = n := by omega
      rw [hk.out] at hO2
      go_wp2
      go_ret
      exact ⟨_, rfl, hO2, hb⟩
set_option maxRecDepth 100000 in
set_option maxHeartbeats 1000000 in
theorem public_any (s : ByteArray) (h : Nat) (hs : s.size ≤ 1073741824) (hh : h ≤ 8) (R : ByteArray) (hR : Dg.publicB s h = R) (w : World) (he : Env w) :
    Calls Tryd.prog 13 #[.string s, .int .i64 h] w fun e w' => e = .returned (.tuple #[.string R, .int .i64 0]) ∧ Below w.heap.size w w' := by
  have h8 := pow_le8 h hh
  have hl : (Dg.keysB s h).length ≤ 256 := by rw [Dg.keysB_len]; exact h8
  clear h8
  have hz := hide (fun x (hx : x ∈ Dg.keysB s h) => (by rw [Dg.keysB_size s h x hx]; decide : x.size ≤ 1073741824))
  have HR := hide (show Dg.root (Dg.keysB s h) = R from hR); clear hR
  go_enter Tryd.func13, Tryd.ntmps13
  go_wp2_with fail
  refine (keys_any s h hs hh w he).mono ?_
  rintro e w1 ⟨v, rfl, hO, hb⟩
  obtain ⟨A, c, rfl, hc, hS⟩ := hO.strs
  clear hO
  generalize Dg.keysB s h = q at *
  go_wp2_with fail
  refine (root_of q.length A c q R w1 rfl HR.out (he.next hb) hc (by omega) hz.out hS).mono ?_
  rintro e w2 ⟨rfl, hb2⟩
  have hb3 := bnext hb hb2
  go_wp2
  go_ret2
  exact ⟨rfl, hb3⟩
theorem public_bad (s : ByteArray) (h : Int) (hh : h < 0 ∨ 8 < h) (w : World) :
    Calls Tryd.prog 13 #[.string s, .int .i64 h] w fun e w' => e = .returned (.tuple #[.string ⟨#[]⟩, .int .i64 1]) ∧ Below w.heap.size w w' := by
  go_enter Tryd.func13, Tryd.ntmps13
  by_cases h0 : h < 0
  · go_wp2
    go_ret2
    exact ⟨rfl, Below.refl _ _⟩
  · have h1 : 8 < h := by omega
    go_wp2
    go_ret2
    exact ⟨rfl, Below.refl _ _⟩
end Go.Proofs.YtgncahnkkpjdpaaDoor
/- A region that draws its order, in the body of a range over a function: it goes by the plain laws. No conditions. -/
namespace Go.Proofs.YtgncahnkkpjdpaaDoor
open Go
section
variable {P : Program} {ops : Array Oper} {Q : Exit → Act → World → Prop} {md : Region.Mode}
theorem rows_wide {l n : Nat} {row : String} {args : Array Value} {w : World} {R : Value → World → Prop} (h : Rows P row args w R) : RowsIn (Fence.wide.inRound l) n P row args w R := fun c cs _ => by
  obtain ⟨v, w', r, s⟩ := h c cs
  exact ⟨v, w', r, (stepsIn_wide (P := P)).2 s⟩
theorem oper_round {l n : Nat} {o : Oper} {a : Act} {w : World} {K : Act → World → Prop} (hd : ∀ c, o.op ≠ .defer c) (h : o.wp P a w K Q) : o.wpIn (Fence.wide.inRound l) n P a w K Q := by
  unfold Oper.wpIn
  refine ⟨fun _ _ => trivial, ?_⟩
  rw [Oper.semAt_eq _ _ _ hd]
  unfold Oper.wp at h
  generalize (execOp a.eval o).run P w = r at *
  cases r with
  | ok x w' =>
    cases x <;> simp only [Oper.upon, Oper.uponIn] at h ⊢ <;>
      first
        | exact h
        | exact ⟨fun h => (by cases h), CallsIn.inRound l (callsIn_wide.2 h)⟩
        | exact ⟨fun h => (by cases h), rows_wide h⟩
  | halt x w' => cases x <;> simp only [Oper.upon, Oper.uponIn] at h ⊢ <;> exact h
theorem wpOp_round {l n i : Nat} {a : Act} {w : World} {K K' : Act → World → Prop} (hd : ∀ o c, ops[i]? = some o → o.op ≠ .defer c) (hQ : ¬ LetsOut Q) (hK : ∀ a w, K a w → K' a w) (h : wpOp P ops Q i K a w) : wpOpIn (Fence.wide.inRound l) n P ops Q i K' a w := by
  unfold wpOp at h
  unfold wpOpIn
  cases ho : ops[i]? with
  | none => simp only [ho] at h ⊢; exact hK _ _ h
  | some o =>
    simp only [ho] at h ⊢
    split
    · rename_i hw
      simp only [hw, if_true] at h
      rcases h with h | h
      · exact Oper.wpIn_mono hK (oper_round (hd o · ho) h)
      · exact absurd h.2 hQ
    · rename_i hw
      simp only [hw] at h
      exact ⟨fun _ _ => trivial, hK _ _ h⟩
theorem wpAny_round {l n : Nat} (hd : ∀ (i : Nat) o c, ops[i]? = some o → o.op ≠ .defer c) (hQ : ¬ LetsOut Q) : ∀ (fuel : Nat) (listed : Array Bool) (a : Act) (w : World), wpAny P md ops Q fuel listed a w → wpAnyIn (Fence.wide.inRound l) n P md ops Q fuel listed a w
  | 0, _, _, _, h => h
  | fuel + 1, _, _, _, h => ⟨h.1, fun i hi => wpOp_round (hd i) hQ (fun a' w' h' => wpAny_round hd hQ fuel _ a' w' h') (h.2 i hi)⟩
def noDefer (ops : Array Oper) : Bool := ops.all fun o => match o.op with | .defer _ => false | _ => true
theorem noDefer_spec (h : noDefer ops = true) (i : Nat) (o : Oper) (c : Call) (ho : ops[i]? = some o) : o.op ≠ .defer c := fun e => by
  unfold noDefer at h
  have := Array.all_eq_true.1 h i (Array.getElem?_eq_some_iff.1 ho).1
  rw [(Array.getElem?_eq_some_iff.1 ho).2, e] at this
  exact Bool.noConfusion this
theorem wpIn_region_round {l n id : Nat} {S : World → Prop} {a : Act} {w : World} (hm : P.follows .mixedOrders = true) (hd : noDefer ops = true) (hQ : ¬ LetsOut Q) (hS : S w.drew)
    (h : S w.drew → wpAnyH P .any ops Q S ops.size (Array.replicate ops.size false) a w.drew) : (Code.region id ops true).wpIn (Fence.wide.inRound l) n P Q a w :=
  wpIn_region_any hm (wpAny_round (noDefer_spec hd) hQ _ _ _ _ (wpAny_of_held _ _ _ _ (h hS)))
end
end Go.Proofs.YtgncahnkkpjdpaaDoor
/- A region that draws its order and stores, as its last doing, into a cell that it loads before ('x = append(x, f(y))'): the loads are taken first, under a condition that is asked only till operation k has come up, which waits for them. In a plain body, and in the body of a range over a function. No conditions. -/
namespace Go.Proofs.YtgncahnkkpjdpaaDoor
open Go Go.RowKit
theorem below_undrew {B : Nat} {W W' : World} (h : Below B W.drew W') : Below B W W' := ⟨h.os, h.tape, h.output, h.size, h.block⟩
section
variable {P : Program} {ops : Array Oper} {Q : Exit → Act → World → Prop} {md : Region.Mode} {S : World → Prop} {k : Nat}
def closedB (md : Region.Mode) (ops : Array Oper) (listed : Array Bool) : Bool :=
  (List.range ops.size).all fun j => !listed.getD j false || (match ops[j]? with | none => true | some o => o.after.all fun e => !Region.binds md e || listed.getD e.on false)
def waitsF (md : Region.Mode) (ops : Array Oper) : Nat → Nat → Nat → Bool
  | 0, _, _ => false
  | f + 1, k, i => match ops[k]? with | none => false | some o => o.after.any fun e => Region.binds md e && (e.on == i || waitsF md ops f e.on i)
theorem closed_spec {listed : Array Bool} (h : closedB md ops listed = true) {j : Nat} {o : Oper} (ho : ops[j]? = some o) (hj : listed.getD j false = true) : ∀ e ∈ o.after, Region.binds md e = true → listed.getD e.on false = true := fun e he hb => by
  unfold closedB at h
  have h1 := List.all_eq_true.1 h j (List.mem_range.2 (Array.getElem?_eq_some_iff.1 ho).1)
  rw [ho, hj] at h1
  simp only [Bool.not_true, Bool.false_or] at h1
  have h2 := Array.all_eq_true'.1 h1 e he
  rw [hb] at h2
  simpa using h2
theorem ready_after {listed : Array Bool} {j : Nat} {o : Oper} (ho : ops[j]? = some o) (hj : j ∈ Region.ready md ops listed) : ∀ e ∈ o.after, Region.binds md e = true → listed.getD e.on false = true := fun e he hb => by
  obtain ⟨_, o', ho', hall⟩ := mem_ready.1 hj
  obtain rfl : o = o' := Option.some.inj (ho.symm.trans ho')
  exact hall e he hb
theorem getD_set_same {listed : Array Bool} {j : Nat} (d : Bool) (h : j < listed.size) : (listed.setIfInBounds j true).getD j d = true := by
  simp [Array.getD, h]
theorem getD_false_true {listed : Array Bool} {j : Nat} (h : listed.getD j true = false) : listed.getD j false = false := by
  rcases Nat.lt_or_ge j listed.size with h1 | h1
  · simp [h1] at h ⊢; exact h
  · simp [Nat.not_lt.2 h1] at h
theorem closed_set {listed : Array Bool} (h : closedB md ops listed = true) {j : Nat} (hj : j ∈ Region.ready md ops listed) : closedB md ops (listed.setIfInBounds j true) = true := by
  unfold closedB
  refine List.all_eq_true.2 fun i hi => ?_
  have hmono : ∀ n, listed.getD n false = true → (listed.setIfInBounds j true).getD n false = true := fun n hn => by
    by_cases hjn : j = n
    · subst hjn
      refine getD_set_same _ ?_
      rcases Nat.lt_or_ge j listed.size with h' | h'
      · exact h'
      · simp [Nat.not_lt.2 h'] at hn
    · rw [getD_set_ne false hjn]; exact hn
  cases ho : ops[i]? with
  | none => simp
  | some o =>
    cases hl : (listed.setIfInBounds j true).getD i false with
    | false => simp
    | true =>
      simp only [Bool.not_true, Bool.false_or]
      refine Array.all_eq_true'.2 fun e he => ?_
      cases hb : Region.binds md e with
      | false => simp
      | true =>
        simp only [Bool.not_true, Bool.false_or]
        refine hmono _ ?_
        by_cases hji : j = i
        · subst hji; exact ready_after ho hj e he hb
        · rw [getD_set_ne false hji] at hl
          exact closed_spec h ho hl e he hb
theorem waits_spec {listed : Array Bool} (h : closedB md ops listed = true) : ∀ (f k i : Nat), waitsF md ops f k i = true → (∀ o, ops[k]? = some o → ∀ e ∈ o.after, Region.binds md e = true → listed.getD e.on false = true) → listed.getD i false = true
  | 0, _, _, hw, _ => by cases hw
  | f + 1, k, i, hw, hk => by
    unfold waitsF at hw
    cases ho : ops[k]? with
    | none => rw [ho] at hw; cases hw
    | some o =>
      rw [ho] at hw
      obtain ⟨e, he, hb⟩ := Array.any_eq_true'.1 hw
      rw [Bool.and_eq_true, Bool.or_eq_true] at hb
      have h1 := hk o ho e he hb.1
      rcases hb.2 with h2 | h2
      · rw [beq_iff_eq] at h2; rw [← h2]; exact h1
      · exact waits_spec h f e.on i h2 (fun o' ho' => closed_spec h ho' h1)
/-- S is asked till operation k has come up. -/
def SL (S : World → Prop) (k : Nat) (listed : Array Bool) (w : World) : Prop := listed.getD k false = true ∨ S w
def wpAnyL (P : Program) (md : Region.Mode) (ops : Array Oper) (Q : Exit → Act → World → Prop) (S : World → Prop) (k : Nat) : Nat → Array Bool → Act → World → Prop
  | 0, listed, a, w => Region.ready md ops listed = [] ∧ Q .normal a w
  | fuel + 1, listed, a, w =>
    (Region.ready md ops listed = [] → Q .normal a w) ∧
    ∀ i ∈ Region.ready md ops listed, wpOp P ops Q i (fun a' w' => SL S k (listed.setIfInBounds i true) w' ∧ wpAnyL P md ops Q S k fuel (listed.setIfInBounds i true) a' w') a w
theorem wpAny_of_L : ∀ (fuel : Nat) (listed : Array Bool) (a : Act) (w : World), wpAnyL P md ops Q S k fuel listed a w → wpAny P md ops Q fuel listed a w
  | 0, _, _, _, h => h
  | fuel + 1, _, _, _, h => ⟨h.1, fun i hi => wpOp_mono (fun a' w' h' => wpAny_of_L fuel _ a' w' h'.2) (h.2 i hi)⟩
theorem wpAnyL_first {i f0 : Nat} {oi : Oper} {v : Value} (hi : ops[i]? = some oi) (hsel : ∀ (j : Nat) (o : Oper) cs b, ops[j]? = some o → o.op ≠ .select cs b)
    (hQ : ∀ c a w, Q (.panic c) (a.put oi.dst v) w → Q (.panic c) a w) (hk : waitsF md ops f0 k i = true ∨ ops.size ≤ k) :
    ∀ (fuel : Nat) (listed : Array Bool) (a : Act) (w : World),
      (∀ j oj, ops[j]? = some oj → j ≠ i → listed.getD j true = false → (∀ e ∈ oj.after, Region.binds md e = true → e.on ≠ i) → oi.apart ops oj = true) →
      i ∈ Region.ready md ops listed → closedB md ops listed = true → listed.getD k false = false → YieldsIf P ops S oi v a → S w →
      wpAnyL P md ops Q S k fuel (listed.setIfInBounds i true) (a.put oi.dst v) w → wpAnyL P md ops Q S k (fuel + 1) listed a w := by
  intro fuel
  induction fuel with
  | zero =>
    intro listed a w _ hr _ _ hy hS H
    refine ⟨fun h => (by rw [h] at hr; cases hr), fun j hj => ?_⟩
    by_cases hji : j = i
    · subst hji; exact hy.wpOp hi hS ⟨Or.inr hS, H⟩
    · have := ready_mono hj hji
      rw [H.1] at this
      cases this
  | succ fuel ih =>
    intro listed a w hfree hr hcl hlk hy hS H
    refine ⟨fun h => (by rw [h] at hr; cases hr), fun j hj => ?_⟩
    by_cases hji : j = i
    · subst hji; exact hy.wpOp hi hS ⟨Or.inr hS, H⟩
    · have hiu := getD_false_true (mem_ready.1 hr).1
      have hall' : ∀ j, j ∈ Region.ready md ops listed → j ≠ k := fun j hj e => by
        subst e
        rcases hk with hk | hk
        · have := waits_spec hcl f0 j i hk (fun o ho => ready_after ho hj)
          rw [hiu] at this
          cases this
        · obtain ⟨_, o, ho, _⟩ := mem_ready.1 hj
          have := (Array.getElem?_eq_some_iff.1 ho).1
          omega
      have hjk := hall' j hj
      have hik := hall' i hr
      have h1 := H.2 j (ready_mono hj hji)
      obtain ⟨hjun, oj, hoj, hall⟩ := mem_ready.1 hj
      have hnot : ∀ e ∈ oj.after, Region.binds md e = true → e.on ≠ i := fun e he hb heq => by
        have h1 := hall e he hb
        rw [heq, hiu] at h1
        cases h1
      have h2 := wpOp_putIf hoj (hfree j oj hoj hji hjun hnot) (fun cs b => hsel i oi cs b hi) (fun cs b => hsel j oj cs b hoj) hQ hy h1
      have hfree' : ∀ n on, ops[n]? = some on → n ≠ i → (listed.setIfInBounds j true).getD n true = false →
          (∀ e ∈ on.after, Region.binds md e = true → e.on ≠ i) → oi.apart ops on = true := fun n on hn hni hun hno => by
        refine hfree n on hn hni ?_ hno
        by_cases hjn : j = n
        · subst hjn; exact hjun
        · rw [getD_set_ne true hjn] at hun; exact hun
      refine wpOp_mono (fun a' w' h3 => ?_) h2
      have hlk' : (listed.setIfInBounds j true).getD k false = false := by rw [getD_set_ne false hjk]; exact hlk
      have hS' : S w' := by
        rcases h3.2.1 with h4 | h4
        · rw [getD_set_ne false hjk, getD_set_ne false hik, hlk] at h4
          cases h4
        · exact h4
      refine ⟨Or.inr hS', ih (listed.setIfInBounds j true) a' w' hfree' (ready_mono hr (Ne.symm hji)) (closed_set hcl hj) hlk' h3.1 hS' ?_⟩
      rw [Array.setIfInBounds_comm _ _ hji]
      exact h3.2.2
theorem wpAnyL_take {i f0 : Nat} {oi : Oper} {v : Value} {fuel : Nat} {listed : Array Bool} {a : Act} {w : World} (hi : ops[i]? = some oi)
    (hs : Region.noSelect ops = true) (hf : Region.free md ops listed i = true) (hr : (Region.ready md ops listed).contains i = true)
    (hk : (waitsF md ops f0 k i || decide (ops.size ≤ k)) = true) (hcl : (closedB md ops listed && !listed.getD k false) = true)
    (hQ : ∀ c a w, Q (.panic c) (a.put oi.dst v) w → Q (.panic c) a w) (hy : YieldsIf P ops S oi v a) (hS : S w)
    (h : wpAnyL P md ops Q S k fuel (listed.setIfInBounds i true) (a.put oi.dst v) w) : wpAnyL P md ops Q S k (fuel + 1) listed a w := by
  rw [Bool.and_eq_true] at hcl
  rw [Bool.or_eq_true, decide_eq_true_eq] at hk
  exact wpAnyL_first hi (Region.noSelect_spec hs) hQ hk fuel listed a w (Region.free_spec hi hf) (by simpa using hr) hcl.1 (by simpa using hcl.2) hy hS h
/-- The one operation that may come up comes up. -/
theorem wpAnyL_one {i : Nat} {o : Oper} {fuel : Nat} {listed : Array Bool} {a : Act} {w : World} (hr : Region.ready md ops listed = [i]) (ho : ops[i]? = some o)
    (h : ∀ K' : Act → World → Prop, Hid (∀ a w, SL S k (listed.setIfInBounds i true) w → wpAnyL P md ops Q S k fuel (listed.setIfInBounds i true) a w → K' a w) → if Region.wanted o (yielded ops a.tmps) = true then Oper.wp P o a w K' Q else K' (a.put o.dst undef) w) : wpAnyL P md ops Q S k (fuel + 1) listed a w :=
  ⟨fun h0 => absurd (hr.symm.trans h0) (by simp), fun j hj => by
    rw [hr] at hj
    obtain rfl := List.mem_singleton.1 hj
    exact wpOp_step ho (fun K' hK => h K' (fun a w hS hW => hK a w ⟨hS, hW⟩))⟩
theorem wpAnyL_done {listed : Array Bool} {a : Act} {w : World} (hr : Region.ready md ops listed = []) (h : Q .normal a w) : ∀ fuel, wpAnyL P md ops Q S k fuel listed a w
  | 0 => ⟨hr, h⟩
  | _ + 1 => ⟨fun _ => h, by rw [hr]; simp⟩
theorem wp_region_L (S : World → Prop) (k : Nat) {id : Nat} {a : Act} {w : World} (hm : P.follows .mixedOrders = true) (h : wpAnyL P .any ops Q S k ops.size (Array.replicate ops.size false) a w.drew) : (Code.region id ops true).wp P Q a w :=
  wp_region_any hm (wpAny_of_L _ _ _ _ h)
theorem wpIn_region_L (S : World → Prop) (k : Nat) {l n id : Nat} {a : Act} {w : World} (hm : P.follows .mixedOrders = true) (hd : noDefer ops = true) (hQ : ¬ LetsOut Q)
    (h : wpAnyL P .any ops Q S k ops.size (Array.replicate ops.size false) a w.drew) : (Code.region id ops true).wpIn (Fence.wide.inRound l) n P Q a w :=
  wpIn_region_any hm (wpAny_round (noDefer_spec hd) hQ _ _ _ _ (wpAny_of_L _ _ _ _ h))
end
end Go.Proofs.YtgncahnkkpjdpaaDoor
/- Lists of strings of the call's own: more laws. No conditions. -/
namespace Go.Proofs.YtgncahnkkpjdpaaDoor
open Go Go.RowKit Go.Sort
theorem OwnS.bounds {w : World} {B g n cap : Nat} {l : List ByteArray} (h : OwnS w B (.slice (some ⟨g, 0, none⟩) n cap) l) : B ≤ g ∧ g < w.heap.size := by
  rcases h.cases with ⟨h, _⟩ | ⟨g', cap', h1, h2, h3, _, _, _⟩
  · injection h with h _ _; cases h
  · injection h1 with h1 _ _
    injection h1 with h1
    injection h1 with h1 _ _
    subst h1
    exact ⟨h2, h3⟩
/-- What a call hands back that makes a list of strings. -/
theorem made_of {f : FuncId} {args : Array Value} {w W : World} {l : List ByteArray} {n : Nat} (hn : l.length = n) (g : Below w.heap.size w W)
    (h : Calls Tryd.prog f args W fun e w' => (∃ g cap, e = .returned (.slice (some ⟨g, 0, none⟩) l.length cap) ∧ OwnS w' W.heap.size (.slice (some ⟨g, 0, none⟩) l.length cap) l) ∧ Below W.heap.size W w') :
    Calls Tryd.prog f args W fun e w' => (∃ g cap, e = .returned (.slice (some ⟨g, 0, none⟩) n cap) ∧ OwnS w' w.heap.size (.slice (some ⟨g, 0, none⟩) n cap) l ∧ W.heap.size ≤ g ∧ g < w'.heap.size) ∧ Below W.heap.size W w' := by
  subst hn
  exact h.mono fun e w' ⟨⟨b, cap, h1, h2⟩, h3⟩ => ⟨⟨b, cap, h1, h2.base g.size, h2.bounds.1, h2.bounds.2⟩, h3⟩
theorem len_snoc (l : List ByteArray) (x : ByteArray) : (l ++ [x]).length = l.length + 1 := by rw [List.length_append, List.length_singleton]
theorem sz_alloc {B : Nat} {w w' : World} {o : Obj} (h : Below B (w.alloc o) w') : w.heap.size + 1 ≤ w'.heap.size := by
  have := h.size
  rwa [World.size_alloc] at this
/-! A literal's cell behind an append that may have written another row of the call's own. -/
theorem lit_b {w wP wQ wF : World} {s : ByteArray} {T : TypeId} {ga : Nat} (hbP : Below (w.alloc (.cells #[.string s] T)).heap.size (w.alloc (.cells #[.string s] T)) wP) (hbQ : Below wP.heap.size wP wQ) (ba : (w.alloc (.cells #[.string s] T)).heap.size ≤ ga) (hgr : wQ.grownBy wF (some ga)) :
    wF.cell? ⟨w.heap.size, 0, none⟩ = some (.string s) := by
  have h1 := sz_alloc hbP
  have h2 := hbQ.size
  rw [World.size_alloc] at ba
  rw [hgr.cell_far ⟨w.heap.size, 0, none⟩ (by show w.heap.size < _; omega) (fun h => by have h' : w.heap.size = ga := Option.some.inj h; omega), hbQ.cell (p := ⟨w.heap.size, 0, none⟩) (by show w.heap.size < _; omega), hbP.cell (p := ⟨w.heap.size, 0, none⟩) (by simp)]
  exact new_cell _ _ _
theorem lit_c {wP wQ wF : World} {s : ByteArray} {T : TypeId} {ga : Nat} (bA : ga < wP.heap.size) (hbQ : Below (wP.alloc (.cells #[.string s] T)).heap.size (wP.alloc (.cells #[.string s] T)) wQ) (hgr : wQ.grownBy wF (some ga)) :
    wF.cell? ⟨wP.heap.size, 0, none⟩ = some (.string s) := by
  have h2 := sz_alloc hbQ
  rw [hgr.cell_far ⟨wP.heap.size, 0, none⟩ (by show wP.heap.size < _; omega) (fun h => by have h' : wP.heap.size = ga := Option.some.inj h; omega), hbQ.cell (p := ⟨wP.heap.size, 0, none⟩) (by simp)]
  exact new_cell _ _ _
theorem lit_d {wP wQ wF : World} {s : ByteArray} {T : TypeId} {ga : Nat} (bA : ga < wP.heap.size) (hsz : wP.heap.size ≤ wQ.heap.size) (hgr : (wQ.alloc (.cells #[.string s] T)).grownBy wF (some ga)) :
    wF.cell? ⟨wQ.heap.size, 0, none⟩ = some (.string s) := by
  rw [hgr.cell_far ⟨wQ.heap.size, 0, none⟩ (by simp) (fun h => by have h' : wQ.heap.size = ga := Option.some.inj h; omega)]
  exact new_cell _ _ _
end Go.Proofs.YtgncahnkkpjdpaaDoor
/- Appends of lists of strings where the operation is wanted. No conditions. -/
namespace Go.Proofs.YtgncahnkkpjdpaaDoor
open Go Go.RowKit Go.Sort
theorem wpList_wanted {P : Program} {ops : Array Oper} {Q : Exit → Act → World → Prop} {a : Act} {w : World} {rest : List Oper} {o : Oper} (hw : Region.wanted o (yielded ops a.tmps) = true)
    (h : ∀ K : Act → World → Prop, (∀ a w, wpList P ops Q rest a w → K a w) → o.wp P a w K Q) : wpList P ops Q (o :: rest) a w :=
  wpList_step fun K hK => by rw [if_pos hw]; exact h K hK
/-- A list of strings onto strings of the call's own, where the operation is wanted. -/
theorem step_lw {w : World} {ops : Array Oper} {rest : List Oper} {o : Oper} {a : Act} {Q : Exit → Act → World → Prop} (hgd : Region.wanted o (yielded ops a.tmps) = true) (sl x : Operand)
    (ho : o.op = .call { callee := .builtin .append, args := #[sl, x], argTypes := #[22, 22] })
    (B B' : Nat) (v : Value) (l l' : List ByteArray) (hs : a.eval sl = v) (hown : OwnS w B v l) (g' cap' : Nat) (hx : a.eval x = .slice (some ⟨g', 0, none⟩) l'.length cap') (hown' : OwnS w B' (.slice (some ⟨g', 0, none⟩) l'.length cap') l')
    (h0 : 0 < l'.length) (hlen : l.length + l'.length < 1099511627776) (hB : B ≤ w.heap.size) (n : Nat) (hn : l.length + l'.length = n)
    (h : ∀ g cap w', OwnS w' B (.slice (some ⟨g, 0, none⟩) n cap) (l ++ l') → Below B w w' → wpList Tryd.prog ops Q rest (a.put o.dst (.slice (some ⟨g, 0, none⟩) n cap)) w') : wpList Tryd.prog ops Q (o :: rest) a w := by
  subst hn
  obtain ⟨i, h1, h2, h3, h4⟩ := info_parts strInfo
  unfold OwnS OwnV at hown
  rw [List.length_map] at hown
  have hat := hown'.getc
  refine wpList_wanted hgd fun K hK => wp_append_lies w sl x 22 ho B 9 i _ 1 16 Tryd.underlying22 h1 h2 h3 h4 rfl (by omega) v l.length _ hs hown ⟨g', 0, none⟩ l'.length cap' (l'.map .string) hx (by rw [List.length_map, Nat.mul_one]) ?_ ?_ h0 (by unfold maxLen; omega) (by omega) hB w.heap.size rfl fun g cap w' h5 h6 h7 _ => hK _ _ (h g cap w' ?_ (below_own hown h6 hB))
  · intro j u' hj
    rw [List.getElem?_map] at hj
    cases hq : l'[j]? with
    | none => rw [hq] at hj; cases hj
    | some s =>
      rw [hq] at hj
      obtain rfl : Value.string s = u' := by simpa using hj
      rw [add_off0]
      exact hat j s hq
  · intro u' hu'
    obtain ⟨s, _, rfl⟩ := List.mem_map.1 hu'
    rfl
  · unfold OwnS OwnV
    rw [List.length_map, List.length_append, List.map_append]
    exact h5
theorem OwnS.strs' {w : World} {B g n cap : Nat} {l : List ByteArray} (h : OwnS w B (.slice (some ⟨g, 0, none⟩) n cap) l) : Strs w w.heap.size (some ⟨g, 0, none⟩) l :=
  ⟨fun _ => ⟨g, 0, rfl, h.bounds.2, fun j s hj => by rw [Nat.zero_add]; exact h.getc j s hj⟩⟩
theorem mem_app {a b : List ByteArray} {n : Nat} (ha : ∀ s ∈ a, s.size ≤ n) (hb : ∀ s ∈ b, s.size ≤ n) : ∀ s ∈ a ++ b, s.size ≤ n := fun s hs => by
  rcases List.mem_append.1 hs with h | h
  · exact ha s h
  · exact hb s h
end Go.Proofs.YtgncahnkkpjdpaaDoor
/- Appends once more: whatever slice of strings, where the operation is wanted. -/
namespace Go.Proofs.YtgncahnkkpjdpaaDoor
open Go Go.RowKit Go.Sort
theorem own_empty (w : World) (T : TypeId) (B : Nat) (hT : T = 9) (hB : B ≤ w.heap.size) : OwnS (w.alloc (.cells #[] T)) B (.slice (some ⟨w.heap.size, 0, none⟩) 0 0) [] := by
  subst hT
  exact ⟨rfl, Or.inr ⟨w.heap.size, 0, #[], rfl, hB, heap_alloc_new w _, Nat.le_refl _, Nat.zero_le _, rfl, rfl⟩⟩
theorem run_append_none {P : Program} {w : World} (base : Nat) (t ty e : TypeId) (i : TypeInfo) (size : Nat) (ht : P.underlying t = some (.slice e)) (hi : P.info? e = some i) (v : Value) (n : Nat) (xs : List Value) (hown : w.ownsRow base e size v n xs) (c : Nat) :
    (Builtin.append_ #[t, t] ty #[v, .slice none 0 c]).run P w = .ok v w := by
  rcases hown.2 with ⟨rfl, rfl⟩ | ⟨g, cap, cur, rfl, _, _, hnc, _⟩
  · simp [Builtin.append_, run_underlying ht, sizeOf, typeInfo, hi, Builtin.lenOf, Builtin.firstCells]
  · simp [Builtin.append_, run_underlying ht, sizeOf, typeInfo, hi, Builtin.lenOf, Builtin.firstCells, hnc, storeCells]
/-- A slice of strings, whatever it is, onto strings of the call's own. -/
theorem wp_ad {w : World} {o : Oper} {a : Act} {K : Act → World → Prop} {Q : Exit → Act → World → Prop} (sl x : Operand)
    (ho : o.op = .call { callee := .builtin .append, args := #[sl, x], argTypes := #[22, 22] })
    (B B' : Nat) (v : Value) (l l' : List ByteArray) (hs : a.eval sl = v) (hown : OwnS w B v l) (A : Option Addr) (n cap : Nat) (hn : l'.length = n) (hx : a.eval x = .slice A n cap) (hS : Strs w B' A l')
    (hlen : l.length + n < 1099511627776) (hB : B ≤ w.heap.size)
    (h : ∀ v' w', OwnS w' B v' (l ++ l') → Below B w w' → w.grownBy w' v.ownBlock → K (a.put o.dst v') w') : o.wp Tryd.prog a w K Q := by
  subst hn
  obtain ⟨i, h1, h2, h3, h4⟩ := info_parts strInfo
  have hown' := hown
  unfold OwnS OwnV at hown
  rw [List.length_map] at hown
  cases A with
  | none =>
    have h0 : l' = [] := by
      cases l' with
      | nil => rfl
      | cons y r =>
        obtain ⟨b, off, e, _⟩ := hS.at_ (by simp)
        cases e
    subst h0
    have hrun := run_append_none (P := Tryd.prog) B 22 o.type 9 i 1 Tryd.underlying22 h1 v l.length _ hown cap
    unfold Oper.wp execOp
    simp only [ho, resolve, invoke, builtin, Sem.run_bind, Sem.run_pure, Result.andThen_ok, List.map_toArray, List.map_cons, List.map_nil, hs, hx, List.length_nil, hrun]
    exact h v w (by rw [List.append_nil]; exact hown') (Below.refl _ _) (World.grownBy.refl w _)
  | some ad =>
    obtain ⟨v', w', hr, h5, h6, _, _⟩ := run_append_own_at (P := Tryd.prog) w B 22 o.type 9 i _ 1 16 Tryd.underlying22 h1 h2 h3 h4 rfl (by omega) v l.length _ hown ad l'.length cap (l'.map .string) (by rw [List.length_map, Nat.mul_one]) (fun j u hj => by
      rw [List.getElem?_map] at hj
      cases hq : l'[j]? with
      | none => rw [hq] at hj; cases hj
      | some s =>
        rw [hq] at hj
        obtain rfl : Value.string s = u := by simpa using hj
        obtain ⟨b, off, e, _, hc⟩ := hS.at_ (by have := (List.getElem?_eq_some_iff.1 hq).1; omega)
        cases e
        rw [addr_off]
        exact hc j s hq) (fun u hu => by obtain ⟨s, _, rfl⟩ := List.mem_map.1 hu; rfl) (by unfold maxLen; omega) (by omega) hB
    unfold Oper.wp execOp
    simp only [ho, resolve, invoke, builtin, Sem.run_bind, Sem.run_pure, Result.andThen_ok, List.map_toArray, List.map_cons, List.map_nil, hs, hx, hr]
    refine h v' w' ?_ (below_own hown h6 hB) h6
    unfold OwnS OwnV
    rw [List.length_map, List.length_append, List.map_append]
    exact h5
theorem step_ad {w : World} {ops : Array Oper} {o : Oper} {a : Act} {K : Act → World → Prop} {Q : Exit → Act → World → Prop} {E : Prop} (hgd : Region.wanted o (yielded ops a.tmps) = true) (sl x : Operand)
    (ho : o.op = .call { callee := .builtin .append, args := #[sl, x], argTypes := #[22, 22] })
    (B B' : Nat) (v : Value) (l l' : List ByteArray) (hs : a.eval sl = v) (hown : OwnS w B v l) (A : Option Addr) (n cap : Nat) (hn : l'.length = n) (hx : a.eval x = .slice A n cap) (hS : Strs w B' A l')
    (hlen : l.length + n < 1099511627776) (hB : B ≤ w.heap.size)
    (h : ∀ v' w', OwnS w' B v' (l ++ l') → Below B w w' → w.grownBy w' v.ownBlock → K (a.put o.dst v') w') :
    if Region.wanted o (yielded ops a.tmps) = true then Oper.wp Tryd.prog o a w K Q else E := by
  rw [if_pos hgd]
  exact wp_ad sl x ho B B' v l l' hs hown A n cap hn hx hS hlen hB h
/-- One string by its cell, where the operation is wanted. -/
theorem step_cw {w : World} {ops : Array Oper} {o : Oper} {a : Act} {K : Act → World → Prop} {Q : Exit → Act → World → Prop} {E : Prop} (hgd : Region.wanted o (yielded ops a.tmps) = true) (sl x : Operand)
    (ho : o.op = .call { callee := .builtin .append, args := #[sl, x], argTypes := #[22, 22] })
    (s : ByteArray) (B : Nat) (v : Value) (l : List ByteArray) (hs : a.eval sl = v) (hown : OwnS w B v l) (ad : Addr) (c : Nat) (hx : a.eval x = .slice (some ad) 1 c) (hc : w.cell? ad = some (.string s))
    (hlen : l.length < 1099511627776) (hB : B ≤ w.heap.size) (n : Nat) (hn : l.length + 1 = n)
    (h : ∀ g cap w', OwnS w' B (.slice (some ⟨g, 0, none⟩) n cap) (l ++ [s]) → Below B w w' → K (a.put o.dst (.slice (some ⟨g, 0, none⟩) n cap)) w') :
    if Region.wanted o (yielded ops a.tmps) = true then Oper.wp Tryd.prog o a w K Q else E := by
  subst hn
  obtain ⟨i, h1, h2, h3, h4⟩ := info_parts strInfo
  unfold OwnS OwnV at hown
  rw [List.length_map] at hown
  rw [if_pos hgd]
  refine wp_append_lies w sl x 22 ho B 9 i _ 1 16 Tryd.underlying22 h1 h2 h3 h4 rfl (by omega) v l.length _ hs hown ad 1 c [.string s] hx rfl ?_ ?_ (by omega) (by unfold maxLen; omega) (by omega) hB w.heap.size rfl fun g cap w' h5 h6 _ _ => h g cap w' ?_ (below_own hown h6 hB)
  · intro j u' hj
    rcases j with _ | j
    · obtain rfl : Value.string s = u' := by simpa using hj
      have : ad.add 0 = ad := by unfold Addr.add; simp
      rw [this]; exact hc
    · simp at hj
  · intro u' hu'
    obtain rfl : u' = Value.string s := by simpa using hu'
    rfl
  · unfold OwnS OwnV
    rw [List.length_map, List.length_append, List.map_append, List.length_singleton]
    exact h5
/-- A literal's cell behind an append that may have written another row. -/
theorem lit_far {W wF : World} {bl g0 : Nat} {s : ByteArray} (hc : W.cell? ⟨bl, 0, none⟩ = some (.string s)) (hgr : W.grownBy wF (some g0)) (hne : bl ≠ g0) : wF.cell? ⟨bl, 0, none⟩ = some (.string s) := by
  rw [hgr.cell_far ⟨bl, 0, none⟩ (World.block_lt_of_cell? W _ hc) (fun h => hne (Option.some.inj h))]
  exact hc
theorem OwnS.grown {w w' : World} {B g n cap ga : Nat} {l : List ByteArray} (h : OwnS w B (.slice (some ⟨g, 0, none⟩) n cap) l) (hg : w.grownBy w' (some ga)) (hne : ga ≠ g) : OwnS w' B (.slice (some ⟨g, 0, none⟩) n cap) l := by
  have hb := h.bounds
  obtain ⟨h1, h2⟩ := h
  refine ⟨h1, ?_⟩
  rcases h2 with ⟨h2, _⟩ | ⟨g', cap', cur, hv, hB, hh, r⟩
  · injection h2 with h2 _ _; cases h2
  · have hv' := hv
    injection hv with hv _ _
    injection hv with hv
    injection hv with hv _ _
    subst hv
    exact Or.inr ⟨g, cap', cur, hv', hB, by rw [hg.block g hb.2 (fun e => hne (Option.some.inj e).symm)]; exact hh, r⟩
/-- The same in a plain region; what comes is not empty. -/
theorem step_aw {w : World} {ops : Array Oper} {rest : List Oper} {o : Oper} {a : Act} {Q : Exit → Act → World → Prop} (hgd : Region.wanted o (yielded ops a.tmps) = true) (sl x : Operand)
    (ho : o.op = .call { callee := .builtin .append, args := #[sl, x], argTypes := #[22, 22] })
    (B B' : Nat) (v : Value) (l l' : List ByteArray) (hs : a.eval sl = v) (hown : OwnS w B v l) (A : Option Addr) (n cap : Nat) (hn : l'.length = n) (hx : a.eval x = .slice A n cap) (hS : Strs w B' A l')
    (h0 : 0 < l.length) (hlen : l.length + n < 1099511627776) (hB : B ≤ w.heap.size) (k : Nat) (hk : l.length + n = k)
    (h : ∀ g cap w', OwnS w' B (.slice (some ⟨g, 0, none⟩) k cap) (l ++ l') → Below B w w' → wpList Tryd.prog ops Q rest (a.put o.dst (.slice (some ⟨g, 0, none⟩) k cap)) w') : wpList Tryd.prog ops Q (o :: rest) a w := by
  subst hk
  refine wpList_wanted hgd fun K hK => wp_ad sl x ho B B' v l l' hs hown A n cap hn hx hS hlen hB fun v' w' h1 h2 _ => hK _ _ ?_
  obtain ⟨g, c, rfl, _, _⟩ := h1.full (by rw [List.length_append]; omega)
  have e : (l ++ l').length = l.length + n := by rw [List.length_append, hn]
  rw [e] at h1 ⊢
  exact h g c w' h1 h2
end Go.Proofs.YtgncahnkkpjdpaaDoor
/- Sign of package seal: what its loop keeps; the set-up. -/
namespace Go.Proofs.YtgncahnkkpjdpaaDoor
open Go Go.RowKit Go.Sort
attribute [local go_sem] Oper.semAt_some
/-- What the loop of Sign keeps: the seal under way lies in block bo, its texts are the call's own; what lay below bo lies on. -/
def SignInv (w0 : World) (bo n1 : Nat) (i : Int) (l : List ByteArray) (W : World) : Prop :=
  (∃ v, W.heap[bo]? = some (.cells #[.int .i64 i, v, .slice none 0 0] 31 (0, 0)) ∧ OwnS W n1 v l) ∧ Below bo w0 W
theorem SignInv.own (w0 : World) (bo n1 : Nat) (i : Int) (f : List DigP → List ByteArray) (B : Nat) (hB : bo < B) : OwnFrom B (fun pre W => SignInv w0 bo n1 i (f pre) W) := by
  rintro pre W W' row ⟨⟨v, h1, h2⟩, h3⟩ hg hr
  have hbl := (Array.getElem?_eq_some_iff.1 h1).1
  have hne : ∀ k (o : Obj), W.heap[k]? = some o → o.isCells = true → some k ≠ row := fun k o hk ho e => by
    obtain ⟨_, o', h4, h5⟩ := hr k e.symm
    rw [hk] at h4; cases h4; rw [ho] at h5; exact Bool.noConfusion h5
  refine ⟨⟨v, (hg.block bo hbl (hne bo _ h1 rfl)).trans h1, ?_⟩, ?_⟩
  · refine World.ownsRow.kept h2 hg ?_
    rcases h2.2 with ⟨rfl, _⟩ | ⟨g, cap, cur, rfl, _, hgb, _⟩
    · exact .inl rfl
    · exact .inr fun e => hne g _ hgb rfl (by simpa [Value.ownBlock] using e)
  · refine ⟨hg.os.trans h3.os, hg.tape.trans h3.tape, hg.output.trans h3.output, Nat.le_trans h3.size hg.size, fun k hk => ?_⟩
    refine (hg.block k (by omega) (fun e => ?_)).trans (h3.block k hk)
    have := (hr k e.symm).1
    omega
theorem Dg.startB_sz (s : ByteArray) (i k : Nat) : (Dg.startB s i k).size = 16 := listB_size _
theorem run_app1 (w : World) (s : ByteArray) (B : Nat) (v : Value) (l : List ByteArray) (ty : TypeId) (hown : OwnS w B v l) (hlen : l.length < 1099511627776) (hB : B ≤ w.heap.size) :
    ∃ v' w', (Builtin.append_ #[22, 22] ty #[v, .slice (some ⟨w.heap.size, 0, none⟩) 1 1]).run Tryd.prog (w.alloc (.cells #[.string s] 9)) = .ok v' w' ∧ OwnS w' B v' (l ++ [s]) ∧ (w.alloc (.cells #[.string s] 9)).grownBy w' v.ownBlock := by
  obtain ⟨i, h1, h2, h3, h4⟩ := info_parts strInfo
  have ho := OwnV.alloc hown (.cells #[.string s] 9)
  unfold OwnV at ho
  rw [List.length_map] at ho
  obtain ⟨v', w', hr, h5, h6, _⟩ := run_append_own (P := Tryd.prog) (w.alloc (.cells #[.string s] 9)) B 22 ty 9 i _ 1 16 Tryd.underlying22 h1 h2 h3 h4 rfl (by decide) v l.length _ ho ⟨w.heap.size, 0, none⟩ 1 1 [.string s] rfl (cell_one_new _ _ _) (by simp [Value.oneCell']) (by unfold maxLen; omega) (by omega) (by simp; omega)
  refine ⟨v', w', hr, ?_, h6⟩
  unfold OwnS OwnV
  rw [List.length_map, List.length_append, List.map_append]
  exact h5
theorem grown_bo {w W1 W2 : World} {B bo : Nat} {v : Value} {l : List ByteArray} (hO : OwnS w B v l) (hg : W1.grownBy W2 v.ownBlock) (hb : bo < B) (hbo : bo < W1.heap.size) : W2.heap[bo]? = W1.heap[bo]? := by
  refine hg.block bo hbo (fun e => ?_)
  rcases hO.cases with ⟨rfl, _⟩ | ⟨g, cap, rfl, hBg, _⟩
  · simp [Value.ownBlock] at e
  · have : bo = g := by simpa [Value.ownBlock] using e
    omega
/-- The texts of a seal as far as its digits go. -/
def sigTo (s : ByteArray) (i : Nat) (pre : List DigP) : List ByteArray := pre.map fun x => Dg.ch s i x.1.1 x.1.2
theorem sign_setup (w : World) (A B C M : Obj) (q : Nat) (i : Int) (W : World) (hW : W = (((((w.alloc A).alloc B).alloc C).drewN q).alloc (.cells #[.int .i64 i, .slice none 0 0, .slice none 0 0] 31)).alloc M) :
    ∃ w2 : World, w2.heap.size = w.heap.size + 3 ∧ Below w.heap.size w w2 ∧ w2.heap[w.heap.size]? = some A ∧ w2.heap[w.heap.size + 1]? = some B ∧ w2.heap[w.heap.size + 2]? = some C ∧ SignInv w2 (w.heap.size + 3) (w.heap.size + 4) i [] W ∧ W.heap.size = w.heap.size + 5 ∧ W.heap[w.heap.size + 4]? = some M := by
  subst hW
  have a1 := heap_alloc_new w A
  have a2 := heap_alloc_new (w.alloc A) B
  have a3 := heap_alloc_new ((w.alloc A).alloc B) C
  have s1 : (w.alloc A).heap.size = w.heap.size + 1 := by simp
  have s2 : ((w.alloc A).alloc B).heap.size = w.heap.size + 2 := by simp
  have s3 : (((w.alloc A).alloc B).alloc C).heap.size = w.heap.size + 3 := by simp
  rw [s1] at a2
  rw [s2] at a3
  have b12 : Below (w.heap.size + 1) (w.alloc A) (((w.alloc A).alloc B).alloc C) := ((Below.refl _ _).alloc (by simp) _).alloc (by simp) _
  have b23 : Below (w.heap.size + 2) ((w.alloc A).alloc B) (((w.alloc A).alloc B).alloc C) := (Below.refl _ _).alloc (by simp) _
  have b03 : Below w.heap.size w (((w.alloc A).alloc B).alloc C) := (((Below.refl _ _).alloc (Nat.le_refl _) _).alloc (by simp) _).alloc (by simp; omega) _
  generalize hw3 : (((w.alloc A).alloc B).alloc C) = w3 at *
  have e0 : w3.heap[w.heap.size]? = some A := (b12.block _ (by omega)).trans a1
  have e1 : w3.heap[w.heap.size + 1]? = some B := (b23.block _ (by omega)).trans a2
  have bd : Below w.heap.size w (w3.drewN q) := below_drewN b03 q
  have hd : (w3.drewN q).heap = w3.heap := by simp
  generalize w3.drewN q = w2 at *
  have s4 : w2.heap.size = w.heap.size + 3 := by rw [hd]; exact s3
  refine ⟨w2, s4, bd, by rw [hd]; exact e0, by rw [hd]; exact e1, by rw [hd]; exact a3, ⟨⟨.slice none 0 0, ?_, OwnS.nil _ _⟩, ?_⟩, ?_, ?_⟩
  · have := heap_alloc_new w2 (.cells #[.int .i64 i, .slice none 0 0, .slice none 0 0] 31)
    rw [s4] at this
    exact (((Below.refl (w.heap.size + 4) (w2.alloc (.cells #[.int .i64 i, .slice none 0 0, .slice none 0 0] 31))).alloc (by simp; omega) M).block _ (by omega)).trans this
  · exact ((Below.refl _ w2).alloc (by omega) _).alloc (by simp; omega) _
  · simp; omega
  · have := heap_alloc_new (w2.alloc (.cells #[.int .i64 i, .slice none 0 0, .slice none 0 0] 31)) M
    rw [show (w2.alloc (.cells #[.int .i64 i, .slice none 0 0, .slice none 0 0] 31)).heap.size = w.heap.size + 4 by simp; omega] at this
    exact this
theorem keeps_below {W W' : World} (h : Below W.heap.size W W') : KeepsOthers W W' := ⟨h.size, fun k _ hk _ => (h.block k (Array.getElem?_eq_some_iff.1 hk).1).trans hk⟩
theorem keeps_own {W W' : World} {B : Nat} {v : Value} {l : List ByteArray} (hO : OwnS W B v l) (hg : W.grownBy W' v.ownBlock) : KeepsOthers W W' := KeepsOthers.of_grownBy hg (fun j o e hj => by
  rcases hO.2 with ⟨rfl, _⟩ | ⟨g, cap, cur, rfl, _, hgb, _⟩
  · simp [Value.ownBlock] at e
  · have : g = j := by simpa [Value.ownBlock] using e
    subst this
    rw [hgb] at hj
    cases hj
    rfl)
theorem OwnS.setFar {w : World} {B : Nat} {v : Value} {l : List ByteArray} (h : OwnS w B v l) {b : Nat} (hb : b < B) (i : Nat) (u : Value) : OwnS (w.setCell ⟨b, i, none⟩ u) B v l := ownsRow_setCell_below h hb u
/-- What a round of Sign's loop leaves. -/
theorem SignInv.round {w0 : World} {bo n1 : Nat} {i : Int} {v : Value} {l : List ByteArray} {W w9 : World} {g c n : Nat} (hB : Below bo w0 W) (hW : Below bo W w9) (hn : bo < n1)
    (hf : w9.heap[bo]? = some (.cells #[.int .i64 i, v, .slice none 0 0] 31 (0, 0))) (hO : OwnS w9 n1 (.slice (some ⟨g, 0, none⟩) n c) l) :
    SignInv w0 bo n1 i l (w9.setCell ⟨bo, 1, none⟩ (.slice (some ⟨g, 0, none⟩) n c)) :=
  ⟨⟨_, (heap_setCell_same _ _ _ _ _ _ hf).trans rfl, hO.setFar hn 1 _⟩, (hB.trans hW).setCell (p := ⟨bo, 1, none⟩) (Nat.le_refl _) _⟩
theorem sigTo_snoc (s : ByteArray) (i : Nat) (pre : List DigP) (x : DigP) : sigTo s i (pre ++ [x]) = sigTo s i pre ++ [Dg.ch s i x.1.1 x.1.2] := by unfold sigTo; rw [List.map_append]; rfl
theorem sigTo_all (s : ByteArray) (i : Nat) (m : ByteArray) (xs : List DigP) (h : xs.map Subtype.val = digTo m 18) : sigTo s i xs = Dg.sigB s i m := by
  have : sigTo s i xs = (xs.map Subtype.val).map fun x => Dg.ch s i x.1 x.2 := by unfold sigTo; rw [List.map_map]; rfl
  rw [this, h]
  unfold digTo Dg.sigB
  rw [List.map_map]
  rfl
/-- A slice of strings lies on where only blocks turn that hold no strings. -/
theorem Strs.stable {w w' : World} {A : Option Addr} {l : List ByteArray} (h : Strs w w.heap.size A l) (hsz : w.heap.size ≤ w'.heap.size)
    (hk : ∀ b, (∀ off s, w.cell? ⟨b, off, none⟩ ≠ some (.string s)) ∨ w'.heap[b]? = w.heap[b]?) : Strs w' w'.heap.size A l :=
  ⟨fun hl => by
    obtain ⟨b, off, e, hb, hc⟩ := h.at_ hl
    refine ⟨b, off, e, by omega, fun j s hj => ?_⟩
    rcases hk b with h1 | h1
    · exact absurd (hc j s hj) (h1 _ _)
    · exact (World.cell?_of_block (a := ⟨b, off + j, none⟩) h1).trans (hc j s hj)⟩
theorem no_string_row {w : World} {b : Nat} {cs : Array Value} {T : TypeId} (h : w.heap[b]? = some (.cells cs T (0, 0))) (hcs : ∀ (v : Value), v ∈ cs.toList → ∀ s, v ≠ .string s) (off : Nat) (s : ByteArray) : w.cell? ⟨b, off, none⟩ ≠ some (.string s) := fun e => by
  rw [cell_of_row _ _ _ _ _ (0, 0) h] at e
  exact hcs _ (by rw [← Array.getElem?_toList] at e; exact List.mem_of_getElem? e) s rfl
theorem no_string_def {w : World} {b : Nat} {o : Option (List Deferred)} (h : w.heap[b]? = some (.deferred o)) (off : Nat) (s : ByteArray) : w.cell? ⟨b, off, none⟩ ≠ some (.string s) := fun e => by
  unfold World.cell? at e
  simp [h] at e
theorem mem_3 {a b c : Value} {P : Value → Prop} (ha : P a) (hb : P b) (hc : P c) : ∀ v ∈ #[a, b, c].toList, P v := fun v hv => by
  simp at hv
  rcases hv with rfl | rfl | rfl
  · exact ha
  · exact hb
  · exact hc
/-- What lies where Sign has come to its end. -/
theorem sign_end {w w3 : World} {D i : Nat} {Av Ap : Option Addr} {ns cv np cp : Nat} {l q : List ByteArray} (hD : w.heap.size + 5 ≤ D) (hK : w3.heap[D]? = some (.deferred (some [])))
    (hr : w3.heap[w.heap.size + 2]? = some (.cells #[.int .i64 0, .slice none 0 0, .slice none 0 0] 31 (0, 0)))
    (hf : w3.heap[w.heap.size + 3]? = some (.cells #[.int .i64 i, .slice Av ns cv, .slice none 0 0] 31 (0, 0)))
    (hO : OwnS w3 (w.heap.size + 4) (.slice Av ns cv) l) (hS : Strs w3 w3.heap.size Ap q) (hb : Below w.heap.size w w3) (F : World)
    (hF : F = (((((w3.setCell ⟨w.heap.size + 3, 2, none⟩ (.slice Ap np cp)).setCell ⟨w.heap.size + 2, 0, none⟩ (.int .i64 i)).setCell ⟨w.heap.size + 2, 1, none⟩ (.slice Av ns cv)).setCell ⟨w.heap.size + 2, 2, none⟩ (.slice Ap np cp)).putObj D (.deferred none))) :
    F.heap[w.heap.size + 2]? = some (.cells #[.int .i64 i, .slice Av ns cv, .slice Ap np cp] 31 (0, 0)) ∧ Strs F F.heap.size Av l ∧ Strs F F.heap.size Ap q ∧ Below w.heap.size w F := by
  have hDl := (Array.getElem?_eq_some_iff.1 hK).1
  have hsz : F.heap.size = w3.heap.size := by subst hF; simp
  have hoth : ∀ b, b ≠ D → b ≠ w.heap.size + 2 → b ≠ w.heap.size + 3 → F.heap[b]? = w3.heap[b]? := fun b h1 h2 h3 => by
    subst hF
    rw [World.putObj_heap_other h1, heap_setCell_other _ _ _ _ h2, heap_setCell_other _ _ _ _ h2, heap_setCell_other _ _ _ _ h2, heap_setCell_other _ _ _ _ h3]
  refine ⟨?_, ?_, ?_, ?_⟩
  · subst hF
    rw [World.putObj_heap_other (by omega)]
    exact heap_setCell_same _ _ _ _ _ _ (heap_setCell_same _ _ _ _ _ _ (heap_setCell_same _ _ _ _ _ _ ((heap_setCell_other _ _ _ _ (by show w.heap.size + 2 ≠ w.heap.size + 3; omega)).trans hr)))
  · refine ⟨fun hl => ?_⟩
    rcases hO.cases with ⟨_, rfl⟩ | ⟨g, cap, h1, h2, h3, _, hc, _⟩
    · simp at hl
    · injection h1 with h4 _ _
      subst h4
      have hgb : ∃ cur, w3.heap[g]? = some (.cells cur 9) := by
        rcases hO.2 with ⟨h5, _⟩ | ⟨g', cap', cur, h5, _, h6, _⟩
        · injection h5 with h6 _ _; cases h6
        · injection h5 with h7 _ _
          injection h7 with h7
          injection h7 with h7 _ _
          subst h7
          exact ⟨cur, h6⟩
      obtain ⟨cur, hgb⟩ := hgb
      have hgD : g ≠ D := fun e => by subst e; rw [hK] at hgb; cases hgb
      exact ⟨g, 0, rfl, by omega, fun j s hj => (World.cell?_of_block (a := ⟨g, 0 + j, none⟩) (hoth g hgD (by omega) (by omega))).trans (by rw [Nat.zero_add]; exact hc j s hj)⟩
  · refine hS.stable (by omega) fun b => ?_
    by_cases h1 : b = D
    · subst h1; exact Or.inl (no_string_def hK)
    · by_cases h2 : b = w.heap.size + 2
      · subst h2; exact Or.inl (no_string_row hr (mem_3 (P := fun v => ∀ s, v ≠ .string s) (fun _ e => by cases e) (fun _ e => by cases e) (fun _ e => by cases e)))
      · by_cases h3 : b = w.heap.size + 3
        · subst h3; exact Or.inl (no_string_row hf (mem_3 (P := fun v => ∀ s, v ≠ .string s) (fun _ e => by cases e) (fun _ e => by cases e) (fun _ e => by cases e)))
        · exact Or.inr (hoth b h1 h2 h3)
  · have hF' : Below w.heap.size w ((((w3.setCell ⟨w.heap.size + 3, 2, none⟩ (.slice Ap np cp)).setCell ⟨w.heap.size + 2, 0, none⟩ (.int .i64 i)).setCell ⟨w.heap.size + 2, 1, none⟩ (.slice Av ns cv)).setCell ⟨w.heap.size + 2, 2, none⟩ (.slice Ap np cp)) :=
      (((hb.setCell (p := ⟨w.heap.size + 3, 2, none⟩) (by show w.heap.size ≤ w.heap.size + 3; omega) _).setCell (p := ⟨w.heap.size + 2, 0, none⟩) (by show w.heap.size ≤ w.heap.size + 2; omega) _).setCell (p := ⟨w.heap.size + 2, 1, none⟩) (by show w.heap.size ≤ w.heap.size + 2; omega) _).setCell (p := ⟨w.heap.size + 2, 2, none⟩) (by show w.heap.size ≤ w.heap.size + 2; omega) _
    refine ⟨by subst hF; exact hF'.os, by subst hF; exact hF'.tape, by subst hF; exact hF'.output, by have := hb.size; omega, fun k hk => ?_⟩
    exact (hoth k (by omega) (by omega) (by omega)).trans (hb.block k hk)
/-- What Sign hands back. -/
def SealOut (s m : ByteArray) (h i : Nat) (w : World) (e : Ending) (w' : World) : Prop :=
  ∃ A c A' c', e = .returned (.tuple #[.agg #[.int .i64 i, .slice A 18 c, .slice A' h c'], .int .i64 0]) ∧ 18 ≤ c ∧ h ≤ c' ∧ Strs w' w'.heap.size A (Dg.sigB s i m) ∧ Strs w' w'.heap.size A' (Dg.sealPath s h i) ∧ Below w.heap.size w w'
end Go.Proofs.YtgncahnkkpjdpaaDoor

