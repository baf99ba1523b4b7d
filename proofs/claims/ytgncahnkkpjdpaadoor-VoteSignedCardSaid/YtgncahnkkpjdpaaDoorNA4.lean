/- Walks and laws of this seat, several texts in one: V5, V6, V7, Post, Open, Open3, VO, VHd, RegM, V8, V9, VLaw, V10, V11, V12, V13, OwnC, OwnD. No conditions but those that each theorem states. -/
import Derived.Test.YtgncahnkkpjdpaaDoorNA3
import Derived.IntWalk
import Derived.Below
import Derived.ChangeSame
import Derived.ProofKit
import Derived.OpenShut
import Derived.LaidMore
import Derived.Lay
import Derived.SevenTiedAt
import Derived.Stop.Joined
import Derived.SliceStrings
import Derived.Lib.SmallJoins
import Derived.Deep.Slices
/- Count of package vote. No conditions but those that each theorem states. -/
namespace Go.Proofs.YtgncahnkkpjdpaaDoor
open Go Go.RowKit Go.Sort Go.Maps
theorem ownsMap_block {w w' : World} {mb N : Nat} {D : DataW Unit} (h : w.ownsMap Tryd.prog 3 rB mb N D) (e : w'.heap[mb]? = w.heap[mb]?) : w'.ownsMap Tryd.prog 3 rB mb N D := by
  obtain ⟨es, clock, hb, h2⟩ := h
  exact ⟨es, clock, e.trans hb, h2⟩
theorem OwnV.grown {w w' : World} {B mb : Nat} {e : TypeId} {v : Value} {xs : List Value} (h : OwnV w B e v xs) (hg : w.grownBy w' (some mb)) (hmb : mb < B) : OwnV w' B e v xs := by
  refine World.ownsRow.kept h hg ?_
  cases hr : v.ownBlock with
  | none => exact Or.inl rfl
  | some g => exact Or.inr (by have := (h.lt hr).1; simp; omega)
theorem OwnV.base {w : World} {B B' : Nat} {e : TypeId} {v : Value} {xs : List Value} (h : OwnV w B e v xs) (hB : B' ≤ B) : OwnV w B' e v xs := by
  refine ⟨h.1, ?_⟩
  rcases h.2 with h1 | ⟨g, cap, cur, h1, h2, h3⟩
  · exact Or.inl h1
  · exact Or.inr ⟨g, cap, cur, h1, Nat.le_trans hB h2, h3⟩
def badV (s : Dg.St) : List Value := s.bad.map fun i => .int .i64 (i : Nat)
theorem badV_snoc (s : Dg.St) (k : Nat) : badV s ++ [.int .i64 (k : Int)] = badV ⟨s.seen, s.yes, s.no, s.bad ++ [k]⟩ := by unfold badV; rw [List.map_append]; rfl
/-- The cells of a vote. -/
def voteV (v : Dg.Vt) (A1 A2 : Option Addr) (e1 e2 : Nat) : Array Value := #[.int .i64 v.mem, .string v.bill, .int .i64 v.cham, .bool v.yes, .int .i64 v.idx, .slice A1 v.sig.length e1, .slice A2 v.path.length e2]
/-- What a vote must be like for the walks: numbers in their range, texts of a moderate size. -/
structure Vt0 (v : Dg.Vt) : Prop where
  m0 : -9223372036854775808 ≤ v.mem
  m1 : v.mem ≤ 9223372036854775807
  c0 : -9223372036854775808 ≤ v.cham
  c1 : v.cham ≤ 9223372036854775807
  bz : v.bill.size ≤ 1073741824
  sz : ∀ s ∈ v.sig, s.size ≤ 1073741824
  pz : ∀ s ∈ v.path, s.size ≤ 1073741824
/-- A vote's texts in memory. -/
def VtIn (w : World) (B : Nat) (v : Dg.Vt) (A1 A2 : Option Addr) (e1 e2 : Nat) : Prop := Strs w B A1 v.sig ∧ v.sig.length ≤ e1 ∧ Strs w B A2 v.path ∧ v.path.length ≤ e2
/-- A slice of votes. -/
structure Vts (w : World) (B : Nat) (A : Option Addr) (l : List Dg.Vt) : Prop where
  at_ : 0 < l.length → ∃ b off, A = some ⟨b, off, none⟩ ∧ b < B ∧ ∀ (j : Nat) (v : Dg.Vt), l[j]? = some v → ∃ A1 A2 e1 e2, VtIn w B v A1 A2 e1 e2 ∧ ∀ (i : Nat) (u : Value), (voteV v A1 A2 e1 e2)[i]? = some u → w.cell? ⟨b, off + j * 7 + i, none⟩ = some u
theorem VtIn.keep {w w' : World} {v : Dg.Vt} {A1 A2 : Option Addr} {e1 e2 : Nat} (h : VtIn w w.heap.size v A1 A2 e1 e2) (hb : Below w.heap.size w w') : VtIn w' w'.heap.size v A1 A2 e1 e2 := ⟨keepS h.1 hb, h.2.1, keepS h.2.2.1 hb, h.2.2.2⟩
theorem Vts.keep {w w' : World} {A : Option Addr} {l : List Dg.Vt} (h : Vts w w.heap.size A l) (hb : Below w.heap.size w w') : Vts w' w'.heap.size A l :=
  ⟨fun h0 => by
    obtain ⟨b, off, e, hlt, hc⟩ := h.at_ h0
    refine ⟨b, off, e, Nat.lt_of_lt_of_le hlt hb.size, fun j v hj => ?_⟩
    obtain ⟨A1, A2, e1, e2, hin, hcc⟩ := hc j v hj
    exact ⟨A1, A2, e1, e2, hin.keep hb, fun i u hu => (hb.cell (p := ⟨b, off + j * 7 + i, none⟩) hlt).trans (hcc i u hu)⟩⟩
theorem Vts.get {w : World} {B : Nat} {A : Option Addr} {l : List Dg.Vt} (h : Vts w B A l) {k : Nat} (hk : k < l.length) : ∃ b off, A = some ⟨b, off, none⟩ ∧ b < B ∧ ∃ A1 A2 e1 e2, VtIn w B l[k] A1 A2 e1 e2 ∧ ∀ (i : Nat) (u : Value), (voteV l[k] A1 A2 e1 e2)[i]? = some u → w.cell? ⟨b, off + k * 7 + i, none⟩ = some u := by
  obtain ⟨b, off, e, hb, hc⟩ := h.at_ (by omega)
  exact ⟨b, off, e, hb, hc k l[k] (List.getElem?_eq_getElem hk)⟩
set_option maxRecDepth 100000 in
set_option maxHeartbeats 4000000 in
theorem count_good (ch q nu de : Int) (A : Option Addr) (n e : Nat) (K : List ByteArray) (bill : ByteArray) (AV : Option Addr) (nV eV : Nat) (l : List Dg.Vt) (w : World) (he : Env w) (hK : K.length = n) (kn : n ≤ 1099511627776) (hkz : ∀ s ∈ K, s.size ≤ 4611686018427387904) (hS : Strs w w.heap.size A K)
    (hl : l.length = nV) (hn : nV ≤ 1048576) (hv : ∀ v ∈ l, Vt0 v) (hV : Vts w w.heap.size AV l) (hp : Dg.properB ⟨ch, K, q, nu, de⟩ = true) (C : Dg.St) (hC : Dg.cntTo ⟨ch, K, q, nu, de⟩ bill l nV = C) :
    Calls Tryd.prog 12 #[.agg #[.int .i64 ch, .slice A n e, .int .i64 q, .int .i64 nu, .int .i64 de], .string bill, .slice AV nV eV] w fun r w' => (∃ v, r = .returned (.tuple #[.int .i64 (C.yes : Nat), .int .i64 (C.no : Nat), v]) ∧ OwnV w' w.heap.size 3 v (badV C)) ∧ Below w.heap.size w w' := by
  have HC := hide hC; have Hv := hide hv; have HL := hide hl; have HP := hide hp; have HK := hide hK; have HKZ := hide hkz
  clear hC hv hl hp hK hkz
  have hmm := @run_makeMap Tryd.prog
  have hmf : ∀ (fn : Fn) (first cap : Array Value) (w : World), (Instr.makeFunc fn first cap).run Tryd.prog w = .ok (.func fn first cap) w := fun _ _ _ _ => rfl
  go_enter Tryd.func12, Tryd.ntmps12
  go_wp2_with fail
  have hx1 := Below.news (Below.refl w.heap.size w) (.cells #[.int .i64 ch, .slice A n e, .int .i64 q, .int .i64 nu, .int .i64 de] 24)
  have hx2 := Below.news (Below.refl (w.alloc (.cells #[.int .i64 ch, .slice A n e, .int .i64 q, .int .i64 nu, .int .i64 de] 24)).heap.size (w.alloc (.cells #[.int .i64 ch, .slice A n e, .int .i64 q, .int .i64 nu, .int .i64 de] 24))) (.map #[] 0)
  have hs1 : (w.alloc (.cells #[.int .i64 ch, .slice A n e, .int .i64 q, .int .i64 nu, .int .i64 de] 24)).heap.size = w.heap.size + 1 := by simp
  have hmap := World.ownsMap_made (w.alloc (.cells #[.int .i64 ch, .slice A n e, .int .i64 q, .int .i64 nu, .int .i64 de] 24)) Tryd.prog 3 rB
  rw [hs1] at hmap
  have hT0 := heap_alloc_new ((w.alloc (.cells #[.int .i64 ch, .slice A n e, .int .i64 q, .int .i64 nu, .int .i64 de] 24)).alloc (.map #[] 0)) (.cells #[.int .i64 ch, .slice A n e, .int .i64 q, .int .i64 nu, .int .i64 de, .string bill, .map (some (w.heap.size + 1))] 64)
  have hs2 : ((w.alloc (.cells #[.int .i64 ch, .slice A n e, .int .i64 q, .int .i64 nu, .int .i64 de] 24)).alloc (.map #[] 0)).heap.size = w.heap.size + 2 := by simp
  rw [hs2] at hT0
  have hx3 := Below.news (Below.refl ((w.alloc (.cells #[.int .i64 ch, .slice A n e, .int .i64 q, .int .i64 nu, .int .i64 de] 24)).alloc (.map #[] 0)).heap.size ((w.alloc (.cells #[.int .i64 ch, .slice A n e, .int .i64 q, .int .i64 nu, .int .i64 de] 24)).alloc (.map #[] 0))) (.cells #[.int .i64 ch, .slice A n e, .int .i64 q, .int .i64 nu, .int .i64 de, .string bill, .map (some (w.heap.size + 1))] 64)
  have hb0 := bnext (bnext hx1 hx2) hx3
  have hmap0 := hmap.kept (grown_of_below hx3 none) (by simp)
  have hs3 : (((w.alloc (.cells #[.int .i64 ch, .slice A n e, .int .i64 q, .int .i64 nu, .int .i64 de] 24)).alloc (.map #[] 0)).alloc (.cells #[.int .i64 ch, .slice A n e, .int .i64 q, .int .i64 nu, .int .i64 de, .string bill, .map (some (w.heap.size + 1))] 64)).heap.size = w.heap.size + 3 := by simp
  clear hx1 hx2 hx3 hs1 hs2 hmap
  generalize hmb : w.heap.size + 1 = mb at *
  generalize (((w.alloc (.cells #[.int .i64 ch, .slice A n e, .int .i64 q, .int .i64 nu, .int .i64 de] 24)).alloc (.map #[] 0)).alloc (.cells #[.int .i64 ch, .slice A n e, .int .i64 q, .int .i64 nu, .int .i64 de, .string bill, .map (some mb)] 64)) = W0 at *
  refine (proper_of ch q nu de A e n K true HP.out _ HK.out kn HKZ.out (keepS hS hb0)).mono ?_
  rintro r w1 ⟨rfl, hb1⟩
  have hb := bnext hb0 hb1
  have hT1 := row_next hT0 hb1
  have hmap1 := hmap0.kept (grown_of_below hb1 none) (by simp)
  have hs4 : w.heap.size + 3 ≤ w1.heap.size := by have := hb1.size; omega
  clear hT0 hmap0 hb0 hb1 hmm hmf hs3
  have htb : w.heap.size + 2 = mb + 1 := by omega
  rw [htb] at hT1
  go_wp2_with fail
  go_loopw [6, 7, 8, 25] (fun yv nv bv iv wr => ∃ (k : Nat) (s : Dg.St), k ≤ nV ∧ iv = .int .i64 k ∧ Hid (Dg.cntTo ⟨ch, K, q, nu, de⟩ bill l k = s) ∧ yv = .int .i64 (s.yes : Nat) ∧ nv = .int .i64 (s.no : Nat) ∧ OwnV wr w1.heap.size 3 bv (badV s) ∧ Below w.heap.size w wr ∧ wr.heap[mb + 1]? = some (.cells #[.int .i64 ch, .slice A n e, .int .i64 q, .int .i64 nu, .int .i64 de, .string bill, .map (some mb)] 64) ∧ wr.ownsMap Tryd.prog 3 rB mb k (seenD s.seen) ∧ w1.heap.size ≤ wr.heap.size) (fun _ _ _ iv _ => nV - (intOf iv).toNat)
  case atStart => exact ⟨0, Dg.St.none, by omega, rfl, rfl, rfl, rfl, OwnV.nil _ _ _, hb, hT1, hmap1, Nat.le_refl _⟩
  case round =>
    obtain ⟨k, s, hk, rfl, hcs, rfl, rfl, hO, hbr, hTr, hMr, hsz⟩ := hrel
    by_cases hlt : k < nV
    · have hkl : k < l.length := by rw [HL.out]; exact hlt
      obtain ⟨b, off, rfl, hbl, A1, A2, e1, e2, hin, hcc⟩ := (hV.keep hbr).get hkl
      have hvz := hide (Hv.out l[k] (List.getElem_mem hkl))
      have hst := hide (Dg.cntTo_succ ⟨ch, K, q, nu, de⟩ bill l k hkl)
      have hsum := Dg.cntTo_sum ⟨ch, K, q, nu, de⟩ bill l k (by omega)
      rw [hcs.out] at hst hsum
      generalize l[k] = v at *
      have p0 : wr.cell? ⟨b, off + k * 7, none⟩ = some (.int .i64 v.mem) := hcc 0 _ rfl
      have p1 : wr.cell? ⟨b, off + k * 7 + 1, none⟩ = some (.string v.bill) := hcc 1 _ rfl
      have p2 : wr.cell? ⟨b, off + k * 7 + 2, none⟩ = some (.int .i64 v.cham) := hcc 2 _ rfl
      have p3 : wr.cell? ⟨b, off + k * 7 + 3, none⟩ = some (.bool v.yes) := hcc 3 _ rfl
      have p4 : wr.cell? ⟨b, off + k * 7 + 4, none⟩ = some (.int .i64 v.idx) := hcc 4 _ rfl
      have p5 : wr.cell? ⟨b, off + k * 7 + 5, none⟩ = some (.slice A1 v.sig.length e1) := hcc 5 _ rfl
      have p6 : wr.cell? ⟨b, off + k * 7 + 6, none⟩ = some (.slice A2 v.path.length e2) := hcc 6 _ rfl
      clear hcc
      have hk0 : (0 : Int) ≤ (k : Int) := by omega
      have hkn : (k : Int) < (nV : Int) := by omega
      have vz := hvz.out
      have hx := Below.news (Below.refl wr.heap.size wr) (.cells #[.int .i64 v.mem, .string v.bill, .int .i64 v.cham, .bool v.yes, .int .i64 v.idx, .slice A1 v.sig.length e1, .slice A2 v.path.length e2] 33)
      have hbz := bnext hbr hx
      have hin2 := hin.keep hx
      have hTz := row_next hTr hx
      have hMz := hMr.kept (grown_of_below hx none) (by simp)
      have hOz := hO.below hx
      have hrow := heap_alloc_new wr (.cells #[.int .i64 v.mem, .string v.bill, .int .i64 v.cham, .bool v.yes, .int .i64 v.idx, .slice A1 v.sig.length e1, .slice A2 v.path.length e2] 33)
      have hsz2 := hx.size
      go_wp2_with fail
      clear p0 p1 p2 p3 p4 p5 p6 hTr hMr hO hx hin
      cases hR : Dg.okB ⟨ch, K, q, nu, de⟩ bill s v with
      | false =>
        have hcs1 : Hid (Dg.cntTo ⟨ch, K, q, nu, de⟩ bill l (k + 1) = ⟨s.seen, s.yes, s.no, s.bad ++ [k]⟩) := by
          unfold Hid
          rw [hst.out, Dg.St.step, hR]
          rfl
        refine (counts_of v.mem v.bill v.cham v.yes v.idx A1 A2 v.sig.length e1 v.path.length e2 ch q nu de A n e bill mb (mb + 1) k s (wr.alloc (.cells #[.int .i64 v.mem, .string v.bill, .int .i64 v.cham, .bool v.yes, .int .i64 v.idx, .slice A1 v.sig.length e1, .slice A2 v.path.length e2] 33)) hTz hMz (by unfold maxLen; omega) vz.m0 vz.m1 (he.next hbz) K v.sig v.path HK.out HKZ.out (keepS hS hbz) rfl vz.sz hin2.1 hin2.2.1 rfl vz.pz hin2.2.2.1 kn vz.c0 vz.c1 vz.bz false hR).mono ?_
        rintro r w2 ⟨rfl, hg2, hM2⟩
        have hb2 := hbz.grown hg2 hbz.size (fun j hj => by cases hj; omega)
        have hT2 := (hg2.block (mb + 1) (Array.getElem?_eq_some_iff.1 hTz).1 (by simp)).trans hTz
        have hO2 := hOz.grown hg2 (by omega)
        have hs2 := hg2.size
        have hlen : (badV s).length < 1099511627776 := by unfold badV; rw [List.length_map]; omega
        clear hTz hMz hOz hrow hR hst hcs vz hvz hin2
        go_wp2_with (at_builtin; refine step_i w2 rfl (.tmp 37) (.tmp 39) rfl (k : Int) w1.heap.size _ (badV s) rfl hO2 rfl hlen (by omega) ?_; intro v' w3 hO3 hb3)
        go_roundw
        case rel =>
          rw [badV_snoc] at hO3
          exact ⟨k + 1, _, by omega, by go_num, hcs1, rfl, rfl, hO3, hb2.trans (hb3.mono (by omega)), (hb3.block (mb + 1) (by omega)).trans hT2, ownsMap_block hM2 (hb3.block mb (by omega)), by have := hb3.size; omega⟩
        case measure => simp [intOf]; omega
      | true =>
        refine (counts_of v.mem v.bill v.cham v.yes v.idx A1 A2 v.sig.length e1 v.path.length e2 ch q nu de A n e bill mb (mb + 1) k s (wr.alloc (.cells #[.int .i64 v.mem, .string v.bill, .int .i64 v.cham, .bool v.yes, .int .i64 v.idx, .slice A1 v.sig.length e1, .slice A2 v.path.length e2] 33)) hTz hMz (by unfold maxLen; omega) vz.m0 vz.m1 (he.next hbz) K v.sig v.path HK.out HKZ.out (keepS hS hbz) rfl vz.sz hin2.1 hin2.2.1 rfl vz.pz hin2.2.2.1 kn vz.c0 vz.c1 vz.bz true hR).mono ?_
        rintro r w2 ⟨rfl, hg2, hM2⟩
        have hb2 := hbz.grown hg2 hbz.size (fun j hj => by cases hj; omega)
        have hT2 := (hg2.block (mb + 1) (Array.getElem?_eq_some_iff.1 hTz).1 (by simp)).trans hTz
        have hO2 := hOz.grown hg2 (by omega)
        have hs2 := hg2.size
        have hrow2 := (hg2.block wr.heap.size (by simp) (by simp; omega)).trans hrow
        have hy3 : w2.cell? ⟨wr.heap.size, 3, none⟩ = some (.bool v.yes) := by rw [cell_of_row _ _ _ _ _ (0, 0) hrow2]; rfl
        have hcs1 : Hid (Dg.cntTo ⟨ch, K, q, nu, de⟩ bill l (k + 1) = ⟨v.mem :: s.seen, if v.yes then s.yes + 1 else s.yes, if v.yes then s.no else s.no + 1, s.bad⟩) := by
          unfold Hid
          rw [hst.out, Dg.St.step, hR]
          rfl
        clear hTz hMz hOz hrow hrow2 hR hst hcs vz hvz hin2
        cases hy : v.yes with
        | true =>
          rw [hy] at hy3 hcs1
          clear hy
          go_wp2
          go_roundw
          case rel => exact ⟨k + 1, _, by omega, by go_num, hcs1, by go_num, rfl, hO2, hb2, hT2, hM2, by omega⟩
          case measure => simp [intOf]; omega
        | false =>
          rw [hy] at hy3 hcs1
          clear hy
          go_wp2
          go_roundw
          case rel => exact ⟨k + 1, _, by omega, by go_num, hcs1, rfl, by go_num, hO2, hb2, hT2, hM2, by omega⟩
          case measure => simp [intOf]; omega
    · obtain rfl : k = nV := by omega
      rw [HC.out] at hcs
      have hCs : C = s := hcs.out
      subst hCs
      clear hcs HC
      go_wp2
      go_ret3
      exact ⟨⟨_, rfl, hO.base hb.size⟩, hbr⟩
theorem rangeV_succ (k : Nat) : (List.range (k + 1)).map (fun i => Value.int .i64 ((i : Nat) : Int)) = (List.range k).map (fun i => Value.int .i64 ((i : Nat) : Int)) ++ [.int .i64 (k : Int)] := by rw [List.range_succ, List.map_append]; rfl
set_option maxRecDepth 100000 in
set_option maxHeartbeats 4000000 in
theorem count_bad (ch q nu de : Int) (A : Option Addr) (n e : Nat) (K : List ByteArray) (bill : ByteArray) (AV : Option Addr) (nV eV : Nat) (l : List Dg.Vt) (w : World) (hK : K.length = n) (kn : n ≤ 1099511627776) (hkz : ∀ s ∈ K, s.size ≤ 4611686018427387904) (hS : Strs w w.heap.size A K)
    (hl : l.length = nV) (hn : nV ≤ 1048576) (hV : Vts w w.heap.size AV l) (hp : Dg.properB ⟨ch, K, q, nu, de⟩ = false) :
    Calls Tryd.prog 12 #[.agg #[.int .i64 ch, .slice A n e, .int .i64 q, .int .i64 nu, .int .i64 de], .string bill, .slice AV nV eV] w fun r w' => (∃ v, r = .returned (.tuple #[.int .i64 0, .int .i64 0, v]) ∧ OwnV w' w.heap.size 3 v ((List.range nV).map fun i => .int .i64 ((i : Nat) : Int))) ∧ Below w.heap.size w w' := by
  have HL := hide hl; have HP := hide hp; have HK := hide hK; have HKZ := hide hkz
  clear hl hp hK hkz
  have hmm := @run_makeMap Tryd.prog
  have hmf : ∀ (fn : Fn) (first cap : Array Value) (w : World), (Instr.makeFunc fn first cap).run Tryd.prog w = .ok (.func fn first cap) w := fun _ _ _ _ => rfl
  go_enter Tryd.func12, Tryd.ntmps12
  go_wp2_with fail
  have hb0 := bnext (bnext (Below.news (Below.refl w.heap.size w) (.cells #[.int .i64 ch, .slice A n e, .int .i64 q, .int .i64 nu, .int .i64 de] 24)) (Below.news (Below.refl (w.alloc (.cells #[.int .i64 ch, .slice A n e, .int .i64 q, .int .i64 nu, .int .i64 de] 24)).heap.size (w.alloc (.cells #[.int .i64 ch, .slice A n e, .int .i64 q, .int .i64 nu, .int .i64 de] 24))) (.map #[] 0))) (Below.news (Below.refl ((w.alloc (.cells #[.int .i64 ch, .slice A n e, .int .i64 q, .int .i64 nu, .int .i64 de] 24)).alloc (.map #[] 0)).heap.size ((w.alloc (.cells #[.int .i64 ch, .slice A n e, .int .i64 q, .int .i64 nu, .int .i64 de] 24)).alloc (.map #[] 0))) (.cells #[.int .i64 ch, .slice A n e, .int .i64 q, .int .i64 nu, .int .i64 de, .string bill, .map (some (w.heap.size + 1))] 64))
  generalize (((w.alloc (.cells #[.int .i64 ch, .slice A n e, .int .i64 q, .int .i64 nu, .int .i64 de] 24)).alloc (.map #[] 0)).alloc (.cells #[.int .i64 ch, .slice A n e, .int .i64 q, .int .i64 nu, .int .i64 de, .string bill, .map (some (w.heap.size + 1))] 64)) = W0 at *
  refine (proper_of ch q nu de A e n K false HP.out _ HK.out kn HKZ.out (keepS hS hb0)).mono ?_
  rintro r w1 ⟨rfl, hb1⟩
  have hb := bnext hb0 hb1
  clear hb0 hb1 hmm hmf hS HK HKZ HP
  go_wp2_with fail
  go_loopw [6, 7, 8, 25] (fun yv nv bv iv wr => ∃ k : Nat, k ≤ nV ∧ iv = .int .i64 k ∧ yv = .int .i64 0 ∧ nv = .int .i64 0 ∧ OwnV wr w.heap.size 3 bv ((List.range k).map fun i => .int .i64 ((i : Nat) : Int)) ∧ Below w.heap.size w wr) (fun _ _ _ iv _ => nV - (intOf iv).toNat)
  case atStart => exact ⟨0, by omega, rfl, rfl, rfl, OwnV.nil _ _ _, hb⟩
  case round =>
    obtain ⟨k, hk, rfl, rfl, rfl, hO, hbr⟩ := hrel
    by_cases hlt : k < nV
    · have hkl : k < l.length := by rw [HL.out]; exact hlt
      obtain ⟨b, off, rfl, hbl, A1, A2, e1, e2, hin, hcc⟩ := (hV.keep hbr).get hkl
      generalize l[k] = v at *
      have p0 : wr.cell? ⟨b, off + k * 7, none⟩ = some (.int .i64 v.mem) := hcc 0 _ rfl
      have p1 : wr.cell? ⟨b, off + k * 7 + 1, none⟩ = some (.string v.bill) := hcc 1 _ rfl
      have p2 : wr.cell? ⟨b, off + k * 7 + 2, none⟩ = some (.int .i64 v.cham) := hcc 2 _ rfl
      have p3 : wr.cell? ⟨b, off + k * 7 + 3, none⟩ = some (.bool v.yes) := hcc 3 _ rfl
      have p4 : wr.cell? ⟨b, off + k * 7 + 4, none⟩ = some (.int .i64 v.idx) := hcc 4 _ rfl
      have p5 : wr.cell? ⟨b, off + k * 7 + 5, none⟩ = some (.slice A1 v.sig.length e1) := hcc 5 _ rfl
      have p6 : wr.cell? ⟨b, off + k * 7 + 6, none⟩ = some (.slice A2 v.path.length e2) := hcc 6 _ rfl
      clear hcc
      have hk0 : (0 : Int) ≤ (k : Int) := by omega
      have hkn : (k : Int) < (nV : Int) := by omega
      have hx := Below.news (Below.refl wr.heap.size wr) (.cells #[.int .i64 v.mem, .string v.bill, .int .i64 v.cham, .bool v.yes, .int .i64 v.idx, .slice A1 v.sig.length e1, .slice A2 v.path.length e2] 33)
      have hbz := bnext hbr hx
      have hOz := hO.below hx
      have hlen : ((List.range k).map fun i => Value.int .i64 ((i : Nat) : Int)).length < 1099511627776 := by rw [List.length_map, List.length_range]; omega
      have hrs := hide (rangeV_succ k)
      generalize ((List.range k).map fun i => Value.int .i64 ((i : Nat) : Int)) = Q at *
      go_wp2_with fail
      clear p0 p1 p2 p3 p4 p5 p6 hO hx hin
      refine (count1_any _ _ _ rfl rfl).mono ?_
      rintro r w2 ⟨rfl, hb2⟩
      have hO2 := hOz.below hb2
      have hbw := bnext hbz hb2
      go_wp2_with (at_builtin; refine step_i w2 rfl (.tmp 37) (.tmp 39) rfl (k : Int) w.heap.size _ Q rfl hO2 rfl hlen hbw.size ?_; intro v' w3 hO3 hb3)
      go_roundw
      case rel => exact ⟨k + 1, by omega, by go_num, rfl, rfl, by rw [hrs.out]; exact hO3, hbw.trans hb3⟩
      case measure => simp [intOf]; omega
    · obtain rfl : k = nV := by omega
      go_wp2
      go_ret3
      exact ⟨⟨_, rfl, hO⟩, hbr⟩
theorem count_of (ch q nu de : Int) (A : Option Addr) (n e : Nat) (K : List ByteArray) (bill : ByteArray) (AV : Option Addr) (nV eV : Nat) (l : List Dg.Vt) (w : World) (he : Env w) (hK : K.length = n) (kn : n ≤ 1099511627776) (hkz : ∀ s ∈ K, s.size ≤ 4611686018427387904) (hS : Strs w w.heap.size A K)
    (hl : l.length = nV) (hn : nV ≤ 1048576) (hv : ∀ v ∈ l, Vt0 v) (hV : Vts w w.heap.size AV l) (C : Dg.St) (hC : Dg.cnt ⟨ch, K, q, nu, de⟩ bill l = C) :
    Calls Tryd.prog 12 #[.agg #[.int .i64 ch, .slice A n e, .int .i64 q, .int .i64 nu, .int .i64 de], .string bill, .slice AV nV eV] w fun r w' => (∃ v, r = .returned (.tuple #[.int .i64 (C.yes : Nat), .int .i64 (C.no : Nat), v]) ∧ OwnV w' w.heap.size 3 v (badV C)) ∧ Below w.heap.size w w' := by
  unfold Dg.cnt at hC
  cases hp : Dg.properB ⟨ch, K, q, nu, de⟩ with
  | true =>
    rw [hp, if_pos rfl, hl] at hC
    exact count_good ch q nu de A n e K bill AV nV eV l w he hK kn hkz hS hl hn hv hV hp C hC
  | false =>
    rw [hp, if_neg (by decide), hl] at hC
    subst hC
    exact count_bad ch q nu de A n e K bill AV nV eV l w hK kn hkz hS hl hn hV hp
end Go.Proofs.YtgncahnkkpjdpaaDoor
/- Carried of package vote. No conditions but those that each theorem states. -/
namespace Go.Proofs.YtgncahnkkpjdpaaDoor.Dg
/-- Why a bill is not carried. -/
def carE (r : Rl) (cc : Int) (bill : ByteArray) (l : List Vt) : Int :=
  if (properB r && (decide (cc = r.cham) && isB bill)) = false then 1 else if 120 < l.length then 2
  else if (((cnt r bill l).yes : Nat) : Int) + ((cnt r bill l).no : Nat) < r.quo then 20
  else if r.den * ((cnt r bill l).yes : Nat) ≤ r.num * ((((cnt r bill l).yes : Nat) : Int) + ((cnt r bill l).no : Nat)) then 12 else 0
theorem properB_num {r : Rl} (h : properB r = true) : 0 ≤ r.num ∧ r.num < r.den ∧ r.den ≤ 60 := by
  unfold properB ratioB at h
  simp only [Bool.and_eq_true, decide_eq_true_eq] at h
  exact h.2.2.2.2.2.1
theorem cnt_le (r : Rl) (bill : ByteArray) (l : List Vt) : (cnt r bill l).yes + (cnt r bill l).no + (cnt r bill l).bad.length = l.length := by
  unfold cnt
  split
  · exact cntTo_sum r bill l l.length (Nat.le_refl _)
  · simp
end Go.Proofs.YtgncahnkkpjdpaaDoor.Dg
namespace Go.Proofs.YtgncahnkkpjdpaaDoor
open Go Go.RowKit Go.Sort Go.Maps
theorem isW_of (s : ByteArray) (r : Bool) (hr : Dg.isB s = r) (_hs : s.size ≤ 9223372036854775807) (w : World) :
    Calls Tryd.prog 21 #[.string s] w fun e w' => e = .returned (.bool r) ∧ Below w.heap.size w w' := by
  by_cases h16 : s.size = 16
  · exact is_of s r hr (by omega) w
  · have e : (s.size == 16) = false := by simpa using h16
    have hrf : r = false := by rw [← hr, Dg.isB, Dg.is, Dg.len_L, e, Bool.false_and]
    subst hrf
    clear hr
    go_enter Tryd.func21, Tryd.ntmps21
    go_wp2
    go_ret
    exact ⟨rfl, Below.refl _ _⟩
set_option maxRecDepth 100000 in
set_option maxHeartbeats 4000000 in
theorem carried_of (ch q nu de : Int) (A : Option Addr) (n e : Nat) (K : List ByteArray) (cc : Int) (bill : ByteArray) (AV : Option Addr) (nV eV : Nat) (l : List Dg.Vt) (w : World) (he : Env w) (hK : K.length = n) (kn : n ≤ 1099511627776) (hkz : ∀ s ∈ K, s.size ≤ 4611686018427387904) (hS : Strs w w.heap.size A K)
    (hl : l.length = nV) (hn : nV ≤ 1048576) (hv : ∀ v ∈ l, Vt0 v) (hV : Vts w w.heap.size AV l) (hbz : bill.size ≤ 9223372036854775807) (E : Int) (hE : Dg.carE ⟨ch, K, q, nu, de⟩ cc bill l = E) :
    Calls Tryd.prog 11 #[.agg #[.int .i64 ch, .slice A n e, .int .i64 q, .int .i64 nu, .int .i64 de], .agg #[.int .i64 cc, .string bill, .slice AV nV eV]] w fun r w' => r = .returned (.int .i64 E) ∧ Below w.heap.size w w' := by
  have HE := hide hE; have HL := hide hl; have HK := hide hK; have HKZ := hide hkz; have HV := hide hv
  clear hE hl hK hkz hv
  have hx1 := Below.news (Below.refl w.heap.size w) (.cells #[.int .i64 ch, .slice A n e, .int .i64 q, .int .i64 nu, .int .i64 de] 24)
  have hx2 := Below.news (Below.refl (w.alloc (.cells #[.int .i64 ch, .slice A n e, .int .i64 q, .int .i64 nu, .int .i64 de] 24)).heap.size (w.alloc (.cells #[.int .i64 ch, .slice A n e, .int .i64 q, .int .i64 nu, .int .i64 de] 24))) (.cells #[.int .i64 cc, .string bill, .slice AV nV eV] 27)
  have r1 := row_next (heap_alloc_new w (.cells #[.int .i64 ch, .slice A n e, .int .i64 q, .int .i64 nu, .int .i64 de] 24)) hx2
  have r2 := heap_alloc_new (w.alloc (.cells #[.int .i64 ch, .slice A n e, .int .i64 q, .int .i64 nu, .int .i64 de] 24)) (.cells #[.int .i64 cc, .string bill, .slice AV nV eV] 27)
  have hs1 : (w.alloc (.cells #[.int .i64 ch, .slice A n e, .int .i64 q, .int .i64 nu, .int .i64 de] 24)).heap.size = w.heap.size + 1 := by simp
  rw [hs1] at r2
  have hb0 := bnext hx1 hx2
  clear hx1 hx2 hs1
  go_enter Tryd.func11, Tryd.ntmps11
  go_wp2_with fail
  generalize (w.alloc (.cells #[.int .i64 ch, .slice A n e, .int .i64 q, .int .i64 nu, .int .i64 de] 24)).alloc (.cells #[.int .i64 cc, .string bill, .slice AV nV eV] 27) = W0 at *
  obtain ⟨g, hg⟩ : ∃ g, w.heap.size = g := ⟨_, rfl⟩
  rw [hg] at r1 r2
  have HG := hide hg
  have hS0 := keepS hS hb0
  have hV0 := hV.keep hb0
  have he0 := he.next hb0
  rw [hg]
  clear hg
  cases hp : Dg.properB ⟨ch, K, q, nu, de⟩ with
  | false =>
    refine (proper_of ch q nu de A e n K false hp _ HK.out kn HKZ.out hS0).mono ?_
    rintro r w1 ⟨rfl, hb1⟩
    have hE1 : E = 1 := by rw [← HE.out, Dg.carE, hp]; rfl
    subst hE1
    clear HE hp
    go_wp2
    go_ret
    exact ⟨rfl, HG.out ▸ bnext hb0 hb1⟩
  | true =>
    obtain ⟨q0, q1, q2⟩ := Dg.properB_num hp
    have Hp := hide hp; clear hp
    refine (proper_of ch q nu de A e n K true Hp.out _ HK.out kn HKZ.out hS0).mono ?_
    rintro r w1 ⟨rfl, hb1⟩
    replace r1 := row_next r1 hb1
    replace r2 := row_next r2 hb1
    have a0 : w1.cell? ⟨g, 0, none⟩ = some (.int .i64 ch) := by rw [cell_of_row _ _ _ _ _ (0, 0) r1]; rfl
    obtain ⟨b0, b1, b2⟩ := cells3 r2
    by_cases hcc : cc = ch
    · subst hcc
      have c1 : (cc == cc) = true := beq_self_eq_true cc
      have c2 : (cc != cc) = false := by rw [bne, c1]; rfl
      go_wp2_with fail
      cases hB : Dg.isB bill with
      | false =>
        refine (isW_of bill false hB hbz _).mono ?_
        rintro r w2 ⟨rfl, hb2⟩
        have hE1 : E = 1 := by rw [← HE.out, Dg.carE, hB]; simp
        subst hE1
        clear HE hB
        go_wp2
        go_ret
        exact ⟨rfl, HG.out ▸ bnext (bnext hb0 hb1) hb2⟩
      | true =>
        have HB := hide hB; clear hB
        refine (isW_of bill true HB.out hbz _).mono ?_
        rintro r w2 ⟨rfl, hb2⟩
        have hbw := bnext (bnext hb0 hb1) hb2
        have hb12 := bnext hb1 hb2
        replace r1 := row_next r1 hb2
        replace r2 := row_next r2 hb2
        clear a0 b0 b1 b2 c1 c2
        have a0 : w2.cell? ⟨g, 0, none⟩ = some (.int .i64 cc) := by rw [cell_of_row _ _ _ _ _ (0, 0) r1]; rfl
        have a1 : w2.cell? ⟨g, 1, none⟩ = some (.slice A n e) := by rw [cell_of_row _ _ _ _ _ (0, 0) r1]; rfl
        have a2 : w2.cell? ⟨g, 2, none⟩ = some (.int .i64 q) := by rw [cell_of_row _ _ _ _ _ (0, 0) r1]; rfl
        have a3 : w2.cell? ⟨g, 3, none⟩ = some (.int .i64 nu) := by rw [cell_of_row _ _ _ _ _ (0, 0) r1]; rfl
        have a4 : w2.cell? ⟨g, 4, none⟩ = some (.int .i64 de) := by rw [cell_of_row _ _ _ _ _ (0, 0) r1]; rfl
        obtain ⟨b0, b1, b2⟩ := cells3 r2
        by_cases h120 : 120 < nV
        · have d1 : decide ((120 : Int) < (nV : Int)) = true := dec_t (by omega)
          have hE1 : E = 2 := by rw [← HE.out, Dg.carE]; simp [Hp.out, HB.out, HL.out, h120]
          subst hE1
          clear HE
          go_wp2
          go_ret
          exact ⟨rfl, HG.out ▸ hbw⟩
        · have d1 : decide ((120 : Int) < (nV : Int)) = false := dec_f (by omega)
          obtain ⟨C, hC⟩ : ∃ C, Dg.cnt ⟨cc, K, q, nu, de⟩ bill l = C := ⟨_, rfl⟩
          have hsum := Dg.cnt_le ⟨cc, K, q, nu, de⟩ bill l
          rw [hC, HL.out] at hsum
          have hE2 : E = if ((C.yes : Nat) : Int) + (C.no : Nat) < q then 20 else if de * (C.yes : Nat) ≤ nu * (((C.yes : Nat) : Int) + (C.no : Nat)) then 12 else 0 := by
            rw [← HE.out, Dg.carE, hC]
            simp [Hp.out, HB.out, HL.out, h120]
          have HC := hide hC; have HE2 := hide hE2
          clear HE hC hE2
          go_wp2_with fail
          refine (count_of cc q nu de A n e K bill AV nV eV l w2 ((he0.next hb12)) HK.out kn HKZ.out (keepS hS0 hb12) HL.out hn HV.out (hV0.keep hb12) C HC.out).mono ?_
          rintro r w3 ⟨⟨v, rfl, hO⟩, hb3⟩
          replace r1 := row_next r1 hb3
          clear a0 a1 a2 a3 a4 b0 b1 b2 hO
          have a2 : w3.cell? ⟨g, 2, none⟩ = some (.int .i64 q) := by rw [cell_of_row _ _ _ _ _ (0, 0) r1]; rfl
          have a3 : w3.cell? ⟨g, 3, none⟩ = some (.int .i64 nu) := by rw [cell_of_row _ _ _ _ _ (0, 0) r1]; rfl
          have a4 : w3.cell? ⟨g, 4, none⟩ = some (.int .i64 de) := by rw [cell_of_row _ _ _ _ _ (0, 0) r1]; rfl
          by_cases hq : ((C.yes : Nat) : Int) + (C.no : Nat) < q
          · have hE1 : E = 20 := by rw [HE2.out, if_pos hq]
            subst hE1
            clear HE2
            go_wp2
            go_ret
            exact ⟨rfl, HG.out ▸ bnext hbw hb3⟩
          · have p0 : 0 ≤ de * ((C.yes : Nat) : Int) := Int.mul_nonneg (by omega) (by omega)
            have p1 : de * ((C.yes : Nat) : Int) ≤ 60 * 120 := Int.mul_le_mul q2 (by omega) (by omega) (by decide)
            have p2 : 0 ≤ nu * (((C.yes : Nat) : Int) + (C.no : Nat)) := Int.mul_nonneg (by omega) (by omega)
            have p3 : nu * (((C.yes : Nat) : Int) + (C.no : Nat)) ≤ 60 * 120 := Int.mul_le_mul (by omega) (by omega) (by omega) (by decide)
            by_cases hle : de * ((C.yes : Nat) : Int) ≤ nu * (((C.yes : Nat) : Int) + (C.no : Nat))
            · have hE1 : E = 12 := by rw [HE2.out, if_neg hq, if_pos hle]
              subst hE1
              clear HE2
              go_wp2
              go_ret
              exact ⟨rfl, HG.out ▸ bnext hbw hb3⟩
            · have hE1 : E = 0 := by rw [HE2.out, if_neg hq, if_neg hle]
              subst hE1
              clear HE2
              go_wp2
              go_ret
              exact ⟨rfl, HG.out ▸ bnext hbw hb3⟩
    · have c1 : (cc == ch) = false := beq_eq_false_iff_ne.2 hcc
      have c2 : (cc != ch) = true := by rw [bne, c1]; rfl
      have hE1 : E = 1 := by rw [← HE.out, Dg.carE]; simp [hcc]
      subst hE1
      clear HE hcc
      go_wp2
      go_ret
      exact ⟨rfl, HG.out ▸ bnext hb0 hb1⟩
end Go.Proofs.YtgncahnkkpjdpaaDoor
/- few of pandectlaw39: votes of a moderate size. No conditions but those that each theorem states. -/
namespace Go.Proofs.YtgncahnkkpjdpaaDoor
open Go Go.RowKit Go.Sort Go.Maps
/-- What a vote that came in is like. -/
structure VtW (v : Dg.Vt) : Prop where
  m0 : -9223372036854775808 ≤ v.mem
  m1 : v.mem ≤ 9223372036854775807
  c0 : -9223372036854775808 ≤ v.cham
  c1 : v.cham ≤ 9223372036854775807
  bz : v.bill.size ≤ 9223372036854775807
  sl : v.sig.length ≤ 9223372036854775807
  sz : ∀ s ∈ v.sig, s.size ≤ 9223372036854775807
  pl : v.path.length ≤ 9223372036854775807
  pz : ∀ s ∈ v.path, s.size ≤ 9223372036854775807
def fewV1 (v : Dg.Vt) : Bool := fewS v.sig v.path && decide (v.bill.size ≤ 100)
def fewVB (K : List ByteArray) (l : List Dg.Vt) (most : Nat) : Bool := decide (l.length ≤ most) && (decide (K.length ≤ 10) && (Dg.few K 60 && l.all fewV1))
theorem rfewK_of (A : Option Addr) (c n : Nat) (K : List ByteArray) (hK : K.length = n) (R : Bool) (hR : Dg.few K 60 = R) (w : World) (hl : n ≤ 9223372036854775807) (hs : ∀ s ∈ K, s.size ≤ 9223372036854775807) (hr : Strs w w.heap.size A K) :
    Calls Tryd.prog 50 #[.slice A n c, .int .i64 60] w fun e w' => e = .returned (.bool R) ∧ w = w' := by
  subst hK; subst hR
  exact few_any A c K 60 w hl hs hr
set_option maxRecDepth 100000 in
set_option maxHeartbeats 4000000 in
theorem rfewV_of (ch q nu de : Int) (A : Option Addr) (n e : Nat) (K : List ByteArray) (AV : Option Addr) (nV eV most : Nat) (l : List Dg.Vt) (R : Bool) (hR : fewVB K l most = R) (w : World) (hK : K.length = n) (kn : n ≤ 9223372036854775807) (hkz : ∀ s ∈ K, s.size ≤ 9223372036854775807) (hS : Strs w w.heap.size A K)
    (hl : l.length = nV) (hn : nV ≤ 9223372036854775807) (hmost : most ≤ 1000) (hv : ∀ v ∈ l, VtW v) (hV : Vts w w.heap.size AV l) :
    Calls Tryd.prog 26 #[.agg #[.int .i64 ch, .slice A n e, .int .i64 q, .int .i64 nu, .int .i64 de], .slice AV nV eV, .int .i64 (most : Nat)] w fun r w' => r = .returned (.bool R) ∧ Below w.heap.size w w' := by
  have HL := hide hl; have HK := hide hK; have HKZ := hide hkz; have HV := hide hv; have HR := hide hR
  clear hl hK hkz hv hR
  have hb0 := Below.news (Below.refl w.heap.size w) (.cells #[.int .i64 ch, .slice A n e, .int .i64 q, .int .i64 nu, .int .i64 de] 24)
  have hS0 := keepS hS hb0
  have key : Hid ((decide (nV ≤ most) && (decide (n ≤ 10) && (Dg.few K 60 && l.all fewV1))) = R) := by
    unfold Hid
    rw [← HR.out, fewVB, HK.out, HL.out]
  clear HR
  go_enter Tryd.func26, Tryd.ntmps26
  by_cases h1 : nV ≤ most
  · have d1 : decide ((most : Int) < (nV : Int)) = false := dec_f (by omega)
    have d1' : decide (most < nV) = false := dec_f (by omega)
    rw [dec_t h1, Bool.true_and] at key
    by_cases h2 : n ≤ 10
    · have d2 : decide ((10 : Int) < (n : Int)) = false := dec_f (by omega)
      have d2' : decide (10 < n) = false := dec_f (by omega)
      rw [dec_t h2, Bool.true_and] at key
      go_wp2_with fail
      cases hf : Dg.few K 60 with
      | false =>
        refine (rfewK_of A e n K HK.out false hf _ kn HKZ.out hS0).mono ?_
        rintro r w2 ⟨rfl, rfl⟩
        have hRf : R = false := by rw [← key.out, hf]; rfl
        subst hRf
        clear key hf
        go_wp2
        go_ret
        exact ⟨rfl, hb0⟩
      | true =>
        have Hf := hide hf
        rw [hf, Bool.true_and] at key
        clear hf
        refine (rfewK_of A e n K HK.out true Hf.out _ kn HKZ.out hS0).mono ?_
        rintro r w2 ⟨rfl, rfl⟩
        go_wp2
        clear d1 d1' d2 d2'
        go_loopw [7] (fun iv wr => ∃ k : Nat, k ≤ nV ∧ iv = .int .i64 k ∧ Hid ((l.take k).all fewV1 = true) ∧ Below w.heap.size w wr) (fun iv _ => nV - (intOf iv).toNat)
        case atStart => exact ⟨0, by omega, rfl, rfl, hb0⟩
        case round =>
          obtain ⟨k, hk, rfl, hall, hbr⟩ := hrel
          by_cases hlt : k < nV
          · have hkl : k < l.length := by rw [HL.out]; exact hlt
            obtain ⟨b, off, rfl, hbl, A1, A2, e1, e2, hin, hcc⟩ := (hV.keep hbr).get hkl
            have hvw := HV.out l[k] (List.getElem_mem hkl)
            have hts := hide (List.take_succ_eq_append_getElem hkl)
            have hm := hide (List.getElem_mem hkl)
            generalize l[k] = v at *
            have p1 : wr.cell? ⟨b, off + k * 7 + 1, none⟩ = some (.string v.bill) := hcc 1 _ rfl
            have p4 : wr.cell? ⟨b, off + k * 7 + 4, none⟩ = some (.int .i64 v.idx) := hcc 4 _ rfl
            have p5 : wr.cell? ⟨b, off + k * 7 + 4 + 1, none⟩ = some (.slice A1 v.sig.length e1) := hcc 5 _ rfl
            have p6 : wr.cell? ⟨b, off + k * 7 + 4 + 2, none⟩ = some (.slice A2 v.path.length e2) := hcc 6 _ rfl
            clear hcc
            have hk0 : (0 : Int) ≤ (k : Int) := by omega
            have hkn : (k : Int) < (nV : Int) := by omega
            have p5' : wr.cell? ⟨b, off + k * 7 + 5, none⟩ = some (.slice A1 v.sig.length e1) := p5
            have p6' : wr.cell? ⟨b, off + k * 7 + 6, none⟩ = some (.slice A2 v.path.length e2) := p6
            have hbz := hvw.bz
            go_wp2_with fail
            cases hfs : fewS v.sig v.path with
            | false =>
              refine (rfew3_of v.idx A1 A2 e1 e2 v.sig.length v.path.length v.sig v.path false hfs _ rfl rfl hvw.sl hvw.pl hvw.sz hvw.pz hin.1 hin.2.2.1).mono ?_
              rintro r w3 ⟨rfl, hb3⟩
              have hRf : R = false := by
                rw [← key.out]
                exact List.all_eq_false.2 ⟨v, hm.out, by unfold fewV1; rw [hfs, Bool.false_and]; decide⟩
              subst hRf
              clear key hfs
              go_wp2
              go_ret
              exact ⟨rfl, bnext hbr hb3⟩
            | true =>
              refine (rfew3_of v.idx A1 A2 e1 e2 v.sig.length v.path.length v.sig v.path true hfs _ rfl rfl hvw.sl hvw.pl hvw.sz hvw.pz hin.1 hin.2.2.1).mono ?_
              rintro r w3 ⟨rfl, hb3⟩
              replace p1 := (hb3.cell (p := ⟨b, off + k * 7 + 1, none⟩) hbl).trans p1
              have hb4 := bnext hbr hb3
              by_cases h100 : v.bill.size ≤ 100
              · have hall2 : Hid ((l.take (k + 1)).all fewV1 = true) := by
                  unfold Hid
                  rw [hts.out, List.all_append, hall.out]
                  simp [fewV1, hfs, h100]
                clear hfs hall hts p4 p5 p6 p5' p6'
                go_wp2
                go_roundw
                case rel => exact ⟨k + 1, by omega, by go_num, hall2, hb4⟩
                case measure => simp [intOf]; omega
              · have hRf : R = false := by
                  rw [← key.out]
                  exact List.all_eq_false.2 ⟨v, hm.out, by unfold fewV1; rw [dec_f h100]; simp⟩
                subst hRf
                clear key hfs p4 p5 p6 p5' p6'
                go_wp2
                go_ret
                exact ⟨rfl, hb4⟩
          · obtain rfl : k = nV := by omega
            have h5 := hall.out
            rw [List.take_of_length_le (by rw [HL.out]; exact Nat.le_refl _)] at h5
            have hRt : R = true := by rw [← key.out, h5]
            subst hRt
            clear key hall h5
            go_wp2
            go_ret
            exact ⟨rfl, hbr⟩
    · have d2 : decide ((10 : Int) < (n : Int)) = true := dec_t (by omega)
      have d2' : decide (10 < n) = true := dec_t (by omega)
      have hRf : R = false := by rw [← key.out, dec_f h2]; rfl
      subst hRf
      clear key h2
      go_wp2
      go_ret
      exact ⟨rfl, hb0⟩
  · have d1 : decide ((most : Int) < (nV : Int)) = true := dec_t (by omega)
    have d1' : decide (most < nV) = true := dec_t (by omega)
    have hRf : R = false := by rw [← key.out, dec_f h1]; rfl
    subst hRf
    clear key h1
    go_wp2
    go_ret
    exact ⟨rfl, hb0⟩
theorem few39_of (ch q nu de : Int) (A : Option Addr) (n e : Nat) (K : List ByteArray) (AV : Option Addr) (nV eV : Nat) (l : List Dg.Vt) (R : Bool) (hR : fewVB K l 8 = R) (w : World) (hK : K.length = n) (kn : n ≤ 9223372036854775807) (hkz : ∀ s ∈ K, s.size ≤ 9223372036854775807) (hS : Strs w w.heap.size A K)
    (hl : l.length = nV) (hn : nV ≤ 9223372036854775807) (hv : ∀ v ∈ l, VtW v) (hV : Vts w w.heap.size AV l) :
    Calls Tryd.prog 10 #[.agg #[.int .i64 ch, .slice A n e, .int .i64 q, .int .i64 nu, .int .i64 de], .slice AV nV eV] w fun r w' => r = .returned (.bool R) ∧ Below w.heap.size w w' := by
  have hb0 := Below.news (Below.refl w.heap.size w) (.cells #[.int .i64 ch, .slice A n e, .int .i64 q, .int .i64 nu, .int .i64 de] 24)
  have h8 := fun W => hide (rfewV_of ch q nu de A n e K AV nV eV 8 l R hR W hK kn hkz)
  have HS := keepS hS hb0
  have HV := hV.keep hb0
  have Hv := hide hv
  clear hR hK hkz hv
  have h9 := hide ((h8 (w.alloc (.cells #[.int .i64 ch, .slice A n e, .int .i64 q, .int .i64 nu, .int .i64 de] 24))).out HS)
  clear h8
  have HL := hide hl; clear hl
  go_enter Tryd.func10, Tryd.ntmps10
  go_wp2_with fail
  refine (h9.out HL.out hn (by decide) Hv.out HV).mono ?_
  rintro r w2 ⟨rfl, hb2⟩
  go_wp2
  go_ret
  exact ⟨rfl, bnext hb0 hb2⟩
end Go.Proofs.YtgncahnkkpjdpaaDoor
/- The last step of each law's row: the result is true, and each argument reads as it did. No conditions. -/
namespace Go.Proofs.YtgncahnkkpjdpaaDoor
open Go Go.RowKit Go.ChangeShapes Go.WideShapes Go.ChangeAt
section
variable {H : Type} {enc : TypeId × Value → H} {P : Program}
theorem trodAll_later (hl : laidOutB P = true) {W W' : World} (hb : Below W.heap.size W W') : ∀ {ts : List TypeId} {vs : List Value} {ds : List (DataW H)} {ps : List MemPlace},
    (∀ t ∈ ts, P.readableRec t = true ∧ t < P.types.size) → (∀ x ∈ ps, x.block < W.heap.size) → DataW.TrodAll enc P W 0 (fun _ => true) true ts vs ds ps → DataW.TrodAll enc P W' 0 (fun b => decide (b < W.heap.size)) true ts vs ds ps
  | [], vs, ds, ps, _, _, h => by
    obtain ⟨rfl, rfl, rfl⟩ := trodAll_nil h
    exact trodAll_mk0
  | t :: ts, vs, ds, ps, hts, hlt, h => by
    obtain ⟨v, vs', d, ds', p, q, rfl, rfl, rfl, hv, hr⟩ := trodAll_cons h
    obtain ⟨h1, h2⟩ := hts t (List.mem_cons_self ..)
    exact trodAll_cons_mk (Below.trod hl h1 h2 hv hb fun x hx => hlt x (List.mem_append_left _ hx))
      (trodAll_later hl hb (fun t' ht' => hts t' (List.mem_cons_of_mem _ ht')) (fun x hx => hlt x (List.mem_append_right _ hx)) hr)
theorem law_post (hl : laidOutB P = true) {f : Func} {s : ChangeSpec} (hv : s.vars = []) {tb : TypeId} (hrt : f.resultTypes = #[tb]) (htb : P.underlying tb = some .bool)
    (hts : (f.params.toList.all fun t => P.readableRec t && decide (t < P.types.size)) = true) {W W' : World} {args : Array Value} {ds gs : List (DataW H)} {before : List MemPlace}
    (hW : DataW.Whole enc P f.params.toList s.vars false W args.toList ds gs before) (hfn : s.fn H (ds ++ gs) = { results := [.lit (.bool true)], args := ds }) (hb : Below W.heap.size W W') :
    s.post enc P f false true false false W args (.bool true) W' := by
  have hlt : ∀ p ∈ before, p.block < W.heap.size := fun p hp => hW.lt p hp
  have hW' := hW
  obtain ⟨p, q, hA, hV, rfl, _, _⟩ := hW
  refine ⟨ds, gs, p ++ q, [], p, [], hW', ?_, ?_, ?_, hb.frame _, fun h => by cases h⟩
  · rw [hfn, hrt]
    exact trodAll_mk1 (shut_bool htb true)
  · rw [hfn]
    exact trodAll_later hl hb (fun t ht => by have := List.all_eq_true.1 hts t ht; simpa using this) (fun x hx => hlt x (List.mem_append_left _ hx)) hA
  · rw [hfn, hv]
    exact rfl
end
end Go.Proofs.YtgncahnkkpjdpaaDoor
/- The arguments of the laws, opened: strings, small numbers, slices of strings. No conditions. -/
namespace Go.Proofs.YtgncahnkkpjdpaaDoor
open Go Go.RowKit Go.ChangeShapes Go.WideShapes Go.ChangeAt Go.WideMaps Go.WideElems
open Go.ChangeMaps (open_string)
theorem laid_mem {P : Program} {w : World} {n : String} {d : DataW Unit} : ∀ {l : List (String × DataW Unit)} {ps : List MemPlace}, (n, d) ∈ l → DataW.LaidVars P w l ps →
    ∃ g t cs fuel p, P.globalNamed n = some g ∧ (P.globals[g]?).map (·.type) = some t ∧ w.var? P n = some cs ∧ DataW.trod (fun _ => ()) P w 0 (fun _ => true) false fuel t cs.toList = some (d, p)
  | [], _, hm, _ => by cases hm
  | x :: r, ps, hm, h => by
    obtain ⟨g, t, cs, fuel, p, q, h1, h2, h3, h4, h5, _⟩ := h
    rcases List.mem_cons.1 hm with hx | hx
    · subst hx
      exact ⟨g, t, cs, fuel, p, h1, h2, h3, h4⟩
    · exact laid_mem hx h5
theorem env_of_laid {W : World} {l : List (String × DataW Unit)} (hp : (l.all fun x => x.2.handleName?.isNone) = true) (hm : ("internal/strconv.uint64pow10", Lib.tabData .u64 Lib.pow10Tab) ∈ l) (h : laidMetH Tryd.prog l W) : Env W := by
  rw [MakeChecks.laidMetH_plain _ _ _ hp] at h
  obtain ⟨ps, hl, _⟩ := h
  obtain ⟨g, t, cs, fuel, p, hg, ht, hvar, hd⟩ := laid_mem hm hl
  obtain rfl := Option.some.inj (gPow.symm.trans hg)
  obtain rfl := Option.some.inj ((show (Tryd.prog.globals[1]?).map (·.type) = some 138 by kernel_rfl).symm.trans ht)
  unfold Env Lib.TabIs
  rw [hvar, ← Lib.cells_of_tab Tryd.underlying138 Tryd.underlying80 (by kernel_rfl) (by kernel_rfl) hd]
section
variable {H : Type} {enc : TypeId × Value → H}
theorem addr_of_cell {w : World} {a : Addr} {v : Value} (h : w.cell? a = some v) : a = ⟨a.block, a.off, none⟩ ∧ a.block < w.heap.size := by
  refine ⟨?_, block_lt_of_cell h⟩
  obtain ⟨b, off, sp⟩ := a
  cases sp with
  | none => rfl
  | some k =>
    exfalso
    unfold World.cell? at h
    simp at h
    split at h <;> simp at h
theorem add_plain (b off j : Nat) : (⟨b, off, none⟩ : Addr).add j = ⟨b, off + j, none⟩ := by
  unfold Addr.add
  by_cases h : j = 0
  · rw [if_pos h, h, Nat.add_zero]
  · rw [if_neg h]
set_option maxRecDepth 100000 in
theorem open_strs {W : World} {v : Value} {d : DataW H} {p : List MemPlace} {base : Nat} (hv : Value.okWide Tryd.prog W .any base 22 v) (h : DataW.Trod enc Tryd.prog W 0 (fun _ => true) true 22 v d p) :
    ∃ (A : Option Addr) (c : Nat) (l : List ByteArray), v = .slice A l.length c ∧ l.length ≤ 9223372036854775807 ∧ (∀ s ∈ l, s.size ≤ 9223372036854775807) ∧ Strs W W.heap.size A l := by
  obtain ⟨a0, len, cap, rfl⟩ := okWide_slice Tryd.underlying22 hv
  obtain ⟨fuel, hf⟩ := h
  rcases open_strings Tryd.underlying22 Tryd.underlying9 (by kernel_rfl) hf with ⟨hcs, _⟩ | ⟨a, len', cap', ss, hcs, _, hl, hm, hz, _, hcell, hws⟩
  · simp [Value.cells] at hcs
    obtain ⟨rfl, rfl, rfl⟩ := hcs
    exact ⟨none, 0, [], rfl, by simp, by simp, Strs.nil _ _ _⟩
  · simp [Value.cells] at hcs
    obtain ⟨rfl, rfl, rfl⟩ := hcs
    simp only [if_true] at hz
    unfold maxLen at hm
    have htl : (ss.take len).length = len := by rw [List.length_take, hz]; omega
    refine ⟨some a, cap, ss.take len, by rw [htl], by rw [htl]; omega, fun s hs => hws s (List.mem_of_mem_take hs), ⟨fun h0 => ?_⟩⟩
    rw [htl] at h0
    have h00 : a.add 0 = a := by unfold Addr.add; rw [if_pos rfl]
    obtain ⟨e, hb⟩ := addr_of_cell (h00 ▸ hcell 0 (by omega))
    refine ⟨a.block, a.off, by rw [← e], hb, fun j s hj => ?_⟩
    have hjl : j < len := by
      have := (List.getElem?_eq_some_iff.1 hj).1
      rw [htl] at this; exact this
    have h1 := hcell j (by omega)
    rw [List.getElem?_take, if_pos hjl] at hj
    rw [List.getD_eq_getElem?_getD, hj] at h1
    have e2 : a.add j = ⟨a.block, a.off + j, none⟩ := by
      conv => lhs; rw [e]
      exact add_plain _ _ _
    rw [← e2]
    exact h1
end
end Go.Proofs.YtgncahnkkpjdpaaDoor
/- A seal that came in, opened. No conditions. -/
namespace Go.Proofs.YtgncahnkkpjdpaaDoor
open Go Go.RowKit Go.ChangeShapes Go.WideShapes Go.ChangeAt Go.WideMaps Go.WideElems Go.Joins
variable {H : Type} {enc : TypeId × Value → H}
theorem cellsStr : Tryd.prog.cellsOf 9 = 1 := by kernel_rfl
set_option maxRecDepth 100000 in
/-- A field that is a slice of strings. -/
theorem field_strs {W : World} {v : Value} {n : Nat} {y : DataW H × List MemPlace} (hf : DataW.trod enc Tryd.prog W 0 (fun _ => true) true n 22 [v] = some y) :
    ∃ (A : Option Addr) (c : Nat) (l : List ByteArray), v = .slice A l.length c ∧ l.length ≤ 9223372036854775807 ∧ (∀ s ∈ l, s.size ≤ 9223372036854775807) ∧ Strs W W.heap.size A l ∧ l.length ≤ c := by
  rcases open_strings Tryd.underlying22 Tryd.underlying9 (by kernel_rfl) hf with ⟨hcs, _⟩ | ⟨a, len', cap', ss, hcs, _, hl, hm, hz, _, hcell, hws⟩
  · simp only [List.cons.injEq, and_true] at hcs
    subst hcs
    exact ⟨none, 0, [], rfl, by simp, by simp, Strs.nil _ _ _, by simp⟩
  · simp only [List.cons.injEq, and_true] at hcs
    subst hcs
    simp only [if_true] at hz
    unfold maxLen at hm
    have htl : (ss.take len').length = len' := by rw [List.length_take, hz]; omega
    refine ⟨some a, cap', ss.take len', by rw [htl], by rw [htl]; omega, fun s hs => hws s (List.mem_of_mem_take hs), ⟨fun h0 => ?_⟩, by rw [htl]; exact hl⟩
    rw [htl] at h0
    have h00 : a.add 0 = a := by unfold Addr.add; rw [if_pos rfl]
    obtain ⟨e, hb⟩ := addr_of_cell (h00 ▸ hcell 0 (by omega))
    refine ⟨a.block, a.off, by rw [← e], hb, fun j s hj => ?_⟩
    have hjl : j < len' := by
      have := (List.getElem?_eq_some_iff.1 hj).1
      rw [htl] at this; exact this
    have h1 := hcell j (by omega)
    rw [List.getElem?_take, if_pos hjl] at hj
    rw [List.getD_eq_getElem?_getD, hj] at h1
    have e2 : a.add j = ⟨a.block, a.off + j, none⟩ := by
      conv => lhs; rw [e]
      exact add_plain _ _ _
    rw [← e2]
    exact h1
set_option maxRecDepth 100000 in
/-- A seal. -/
theorem open_seal {W : World} {v : Value} {d : DataW H} {p : List MemPlace} {base : Nat} (hv : Value.okWide Tryd.prog W .any base 31 v) (h : DataW.Trod enc Tryd.prog W 0 (fun _ => true) true 31 v d p) :
    ∃ (i : Int) (A : Option Addr) (c : Nat) (l : List ByteArray) (A' : Option Addr) (c' : Nat) (l' : List ByteArray), v = .agg #[.int .i64 i, .slice A l.length c, .slice A' l'.length c'] ∧ (Lit.int .i64 i).wf = true ∧
      l.length ≤ 9223372036854775807 ∧ (∀ s ∈ l, s.size ≤ 9223372036854775807) ∧ Strs W W.heap.size A l ∧ l.length ≤ c ∧
      l'.length ≤ 9223372036854775807 ∧ (∀ s ∈ l', s.size ≤ 9223372036854775807) ∧ Strs W W.heap.size A' l' ∧ l'.length ≤ c' := by
  obtain ⟨v0, v1, v2, y0, y1, y2, n, rfl, rfl, rfl, h0, h1, h2⟩ := open_agg3 Tryd.underlying31 (by kernel_rfl) (by kernel_rfl) hv h
  obtain ⟨i, e0, _, wi⟩ := DataW.trod_int Tryd.underlying3 h0
  simp only [List.cons.injEq, and_true] at e0
  subst e0
  obtain ⟨A, c, l, rfl, a1, a2, a3, a4⟩ := field_strs h1
  obtain ⟨A', c', l', rfl, b1, b2, b3, b4⟩ := field_strs h2
  exact ⟨i, A, c, l, A', c', l', rfl, wi, a1, a2, a3, a4, b1, b2, b3, b4⟩
end Go.Proofs.YtgncahnkkpjdpaaDoor
/- Votes and rolls that came in, opened. No conditions. -/
namespace Go.Proofs.YtgncahnkkpjdpaaDoor
open Go Go.RowKit Go.ChangeShapes Go.WideShapes Go.ChangeAt Go.WideMaps Go.WideElems Go.Joins Go.Deep
variable {H : Type} {enc : TypeId × Value → H}
theorem cInt : Tryd.prog.cellsOf 3 = 1 := by kernel_rfl
theorem cBool : Tryd.prog.cellsOf 4 = 1 := by kernel_rfl
theorem cStrs : Tryd.prog.cellsOf 22 = 1 := by kernel_rfl
theorem cSeal : Tryd.prog.cellsOf 31 = 3 := by kernel_rfl
theorem cVote : Tryd.prog.cellsOf 33 = 7 := by kernel_rfl
theorem cRoll : Tryd.prog.cellsOf 24 = 5 := by kernel_rfl
set_option maxRecDepth 100000 in
theorem trod_seal {W : World} {k : Nat} {c4 c5 c6 : Value} {y : DataW H × List MemPlace} (h : DataW.trod enc Tryd.prog W 0 (fun _ => true) true k 31 [c4, c5, c6] = some y) :
    ∃ (i : Int) (A1 : Option Addr) (e1 : Nat) (l1 : List ByteArray) (A2 : Option Addr) (e2 : Nat) (l2 : List ByteArray), c4 = .int .i64 i ∧ c5 = .slice A1 l1.length e1 ∧ c6 = .slice A2 l2.length e2 ∧
      l1.length ≤ 9223372036854775807 ∧ (∀ s ∈ l1, s.size ≤ 9223372036854775807) ∧ Strs W W.heap.size A1 l1 ∧ l1.length ≤ e1 ∧ l2.length ≤ 9223372036854775807 ∧ (∀ s ∈ l2, s.size ≤ 9223372036854775807) ∧ Strs W W.heap.size A2 l2 ∧ l2.length ≤ e2 := by
  obtain ⟨xs, n, _, _, _, hxl, hf⟩ := DataW.trod_struct Tryd.underlying31 h
  match xs, hxl with
  | [y0, y1, y2], _ =>
    have f0 : DataW.trod enc Tryd.prog W 0 (fun _ => true) true n 3 [c4] = some y0 := by simpa [cInt] using hf 0 _ rfl
    have f1 : DataW.trod enc Tryd.prog W 0 (fun _ => true) true n 22 [c5] = some y1 := by simpa [cStrs] using hf 1 _ rfl
    have f2 : DataW.trod enc Tryd.prog W 0 (fun _ => true) true n 22 [c6] = some y2 := by simpa [cStrs] using hf 2 _ rfl
    obtain ⟨i, e0, _, _⟩ := DataW.trod_int Tryd.underlying3 f0
    obtain ⟨A, c, l, a0, a1, a2, a3, a4⟩ := field_strs f1
    obtain ⟨A', c', l', b0, b1, b2, b3, b4⟩ := field_strs f2
    exact ⟨i, A, c, l, A', c', l', by simpa using e0, a0, b0, a1, a2, a3, a4, b1, b2, b3, b4⟩
set_option maxRecDepth 100000 in
/-- The cells of a vote that came in. -/
theorem trod_vote {W : World} {k : Nat} {cs : List Value} {x : DataW H × List MemPlace} (h : DataW.trod enc Tryd.prog W 0 (fun _ => true) true k 33 cs = some x) :
    ∃ (v : Dg.Vt) (A1 A2 : Option Addr) (e1 e2 : Nat), cs = (voteV v A1 A2 e1 e2).toList ∧ VtW v ∧ VtIn W W.heap.size v A1 A2 e1 e2 := by
  obtain ⟨xs, n, _, _, hlen, hxl, hf⟩ := DataW.trod_struct Tryd.underlying33 h
  rw [cVote] at hlen
  match cs, hlen with
  | [c0, c1, c2, c3, c4, c5, c6], _ =>
    match xs, hxl with
    | [y0, y1, y2, y3, y4], _ =>
      have f0 : DataW.trod enc Tryd.prog W 0 (fun _ => true) true n 3 [c0] = some y0 := by simpa [cInt] using hf 0 _ rfl
      have f1 : DataW.trod enc Tryd.prog W 0 (fun _ => true) true n 9 [c1] = some y1 := by simpa [cellsStr] using hf 1 _ rfl
      have f2 : DataW.trod enc Tryd.prog W 0 (fun _ => true) true n 3 [c2] = some y2 := by simpa [cInt] using hf 2 _ rfl
      have f3 : DataW.trod enc Tryd.prog W 0 (fun _ => true) true n 4 [c3] = some y3 := by simpa [cBool] using hf 3 _ rfl
      have f4 : DataW.trod enc Tryd.prog W 0 (fun _ => true) true n 31 [c4, c5, c6] = some y4 := by simpa [cSeal] using hf 4 _ rfl
      obtain ⟨m, e0, _, w0⟩ := DataW.trod_int Tryd.underlying3 f0
      obtain ⟨b, e1, _, w1⟩ := DataW.trod_string Tryd.underlying9 f1
      obtain ⟨c, e2, _, w2⟩ := DataW.trod_int Tryd.underlying3 f2
      obtain ⟨y, e3, _⟩ := DataW.trod_bool Tryd.underlying4 f3
      obtain ⟨i, A1, x1, l1, A2, x2, l2, g4, g5, g6, a1, a2, a3, a4, b1, b2, b3, b4⟩ := trod_seal f4
      simp only [List.cons.injEq, and_true] at e0 e1 e2 e3
      subst e0 e1 e2 e3 g4 g5 g6
      obtain ⟨m0, m1⟩ := bounds_i64 w0
      obtain ⟨n0, n1⟩ := bounds_i64 w2
      exact ⟨⟨m, b, c, y, i, l1, l2⟩, A1, A2, x1, x2, rfl, ⟨m0, m1, n0, n1, w1, a1, a2, b1, b2⟩, a3, a4, b3, b4⟩
set_option maxRecDepth 100000 in
/-- A slice of votes that came in. -/
theorem field_votes {W : World} {v : Value} {n : Nat} {y : DataW H × List MemPlace} (hf : DataW.trod enc Tryd.prog W 0 (fun _ => true) true n 25 [v] = some y) :
    ∃ (A : Option Addr) (c : Nat) (l : List Dg.Vt), v = .slice A l.length c ∧ l.length ≤ 9223372036854775807 ∧ (∀ v ∈ l, VtW v) ∧ Vts W W.heap.size A l ∧ l.length ≤ c := by
  rcases open_slice Tryd.underlying25 hf with ⟨hcs, _⟩ | ⟨a, len, cap, m, k, D, Pl, hcs, _, hl, hm, hmm, _, hi⟩
  · simp only [List.cons.injEq, and_true] at hcs
    subst hcs
    exact ⟨none, 0, [], rfl, by simp, by simp, ⟨fun h => by simp at h⟩, by simp⟩
  · simp only [List.cons.injEq, and_true] at hcs
    subst hcs
    simp only [if_true] at hmm
    unfold maxLen at hm
    rw [cVote] at hi
    have h1 : ∀ i, ∃ v : Dg.Vt, i < len → VtW v ∧ ∃ A1 A2 e1 e2, VtIn W W.heap.size v A1 A2 e1 e2 ∧ ∀ (j : Nat) (u : Value), (voteV v A1 A2 e1 e2)[j]? = some u → W.cell? ((a.add (i * 7)).add j) = some u := fun i => by
      by_cases hil : i < len
      · obtain ⟨cs', hc, ht⟩ := hi i (by omega)
        obtain ⟨v, A1, A2, e1, e2, hcs, hw, hin⟩ := trod_vote ht
        obtain ⟨_, hcl, hat⟩ := World.cells?_some hc
        refine ⟨v, fun _ => ⟨hw, A1, A2, e1, e2, hin, fun j u hj => ?_⟩⟩
        have hj7 : j < 7 := (Array.getElem?_eq_some_iff.1 hj).1
        rw [hat j hj7, hcs, Array.getElem?_toList]
        exact hj
      · exact ⟨⟨0, ⟨#[]⟩, 0, false, 0, [], []⟩, fun h => absurd h hil⟩
    obtain ⟨f, hfv⟩ := Classical.axiomOfChoice h1
    have hlen : ((List.range len).map f).length = len := by rw [List.length_map, List.length_range]
    refine ⟨some a, cap, (List.range len).map f, by rw [hlen], by rw [hlen]; omega, fun v hv => ?_, ⟨fun h0 => ?_⟩, by rw [hlen]; exact hl⟩
    · obtain ⟨i, hir, rfl⟩ := List.mem_map.1 hv
      exact (hfv i (List.mem_range.1 hir)).1
    · rw [hlen] at h0
      obtain ⟨_, A1, A2, e1, e2, _, hc0⟩ := hfv 0 h0
      have h00 : (a.add (0 * 7)).add 0 = a := by unfold Addr.add; simp
      obtain ⟨e, hb⟩ := addr_of_cell (h00 ▸ hc0 0 _ rfl)
      refine ⟨a.block, a.off, by rw [← e], hb, fun j v hj => ?_⟩
      have hjl : j < len := by
        have := (List.getElem?_eq_some_iff.1 hj).1
        rw [hlen] at this; exact this
      rw [List.getElem?_map, List.getElem?_range hjl] at hj
      obtain rfl : f j = v := by simpa using hj
      obtain ⟨_, B1, B2, x1, x2, hin, hc⟩ := hfv j hjl
      refine ⟨B1, B2, x1, x2, hin, fun i u hu => ?_⟩
      have e2 : (a.add (j * 7)).add i = ⟨a.block, a.off + j * 7 + i, none⟩ := by
        rw [e]
        rw [add_plain, add_plain]
      rw [← e2]
      exact hc i u hu
set_option maxRecDepth 100000 in
/-- A roll. -/
theorem open_roll {W : World} {v : Value} {d : DataW H} {p : List MemPlace} {base : Nat} (hv : Value.okWide Tryd.prog W .any base 24 v) (h : DataW.Trod enc Tryd.prog W 0 (fun _ => true) true 24 v d p) :
    ∃ (ch : Int) (A : Option Addr) (c : Nat) (K : List ByteArray) (q nu de : Int), v = .agg #[.int .i64 ch, .slice A K.length c, .int .i64 q, .int .i64 nu, .int .i64 de] ∧
      K.length ≤ 9223372036854775807 ∧ (∀ s ∈ K, s.size ≤ 9223372036854775807) ∧ Strs W W.heap.size A K ∧ K.length ≤ c := by
  obtain ⟨cs, rfl, hsz⟩ := okWide_struct Tryd.underlying24 hv
  obtain ⟨l⟩ := cs
  match l, hsz.trans cRoll with
  | [c0, c1, c2, c3, c4], _ =>
    obtain ⟨fuel, hf0⟩ := h
    obtain ⟨xs, n, _, _, _, hxl, hf⟩ := DataW.trod_struct Tryd.underlying24 hf0
    match xs, hxl with
    | [y0, y1, y2, y3, y4], _ =>
      have f0 : DataW.trod enc Tryd.prog W 0 (fun _ => true) true n 3 [c0] = some y0 := by simpa [Value.cells, cInt] using hf 0 _ rfl
      have f1 : DataW.trod enc Tryd.prog W 0 (fun _ => true) true n 22 [c1] = some y1 := by simpa [Value.cells, cStrs] using hf 1 _ rfl
      have f2 : DataW.trod enc Tryd.prog W 0 (fun _ => true) true n 3 [c2] = some y2 := by simpa [Value.cells, cInt] using hf 2 _ rfl
      have f3 : DataW.trod enc Tryd.prog W 0 (fun _ => true) true n 3 [c3] = some y3 := by simpa [Value.cells, cInt] using hf 3 _ rfl
      have f4 : DataW.trod enc Tryd.prog W 0 (fun _ => true) true n 3 [c4] = some y4 := by simpa [Value.cells, cInt] using hf 4 _ rfl
      obtain ⟨ch, e0, _, _⟩ := DataW.trod_int Tryd.underlying3 f0
      obtain ⟨A, c, K, rfl, a1, a2, a3, a4⟩ := field_strs f1
      obtain ⟨q, e2, _, _⟩ := DataW.trod_int Tryd.underlying3 f2
      obtain ⟨nu, e3, _, _⟩ := DataW.trod_int Tryd.underlying3 f3
      obtain ⟨de, e4, _, _⟩ := DataW.trod_int Tryd.underlying3 f4
      simp only [List.cons.injEq, and_true] at e0 e2 e3 e4
      subst e0 e2 e3 e4
      exact ⟨ch, A, c, K, q, nu, de, rfl, a1, a2, a3, a4⟩
theorem cCert : Tryd.prog.cellsOf 27 = 3 := by kernel_rfl
theorem cVotes : Tryd.prog.cellsOf 25 = 1 := by kernel_rfl
set_option maxRecDepth 100000 in
/-- A certificate. -/
theorem open_cert {W : World} {v : Value} {d : DataW H} {p : List MemPlace} {base : Nat} (hv : Value.okWide Tryd.prog W .any base 27 v) (h : DataW.Trod enc Tryd.prog W 0 (fun _ => true) true 27 v d p) :
    ∃ (cc : Int) (b : ByteArray) (A : Option Addr) (c : Nat) (l : List Dg.Vt), v = .agg #[.int .i64 cc, .string b, .slice A l.length c] ∧ b.size ≤ 9223372036854775807 ∧
      l.length ≤ 9223372036854775807 ∧ (∀ v ∈ l, VtW v) ∧ Vts W W.heap.size A l ∧ l.length ≤ c := by
  obtain ⟨cs, rfl, hsz⟩ := okWide_struct Tryd.underlying27 hv
  obtain ⟨l⟩ := cs
  match l, hsz.trans cCert with
  | [c0, c1, c2], _ =>
    obtain ⟨fuel, hf0⟩ := h
    obtain ⟨xs, n, _, _, _, hxl, hf⟩ := DataW.trod_struct Tryd.underlying27 hf0
    match xs, hxl with
    | [y0, y1, y2], _ =>
      have f0 : DataW.trod enc Tryd.prog W 0 (fun _ => true) true n 3 [c0] = some y0 := by simpa [Value.cells, cInt] using hf 0 _ rfl
      have f1 : DataW.trod enc Tryd.prog W 0 (fun _ => true) true n 9 [c1] = some y1 := by simpa [Value.cells, cellsStr] using hf 1 _ rfl
      have f2 : DataW.trod enc Tryd.prog W 0 (fun _ => true) true n 25 [c2] = some y2 := by simpa [Value.cells, cVotes] using hf 2 _ rfl
      obtain ⟨cc, e0, _, _⟩ := DataW.trod_int Tryd.underlying3 f0
      obtain ⟨b, e1, _, w1⟩ := DataW.trod_string Tryd.underlying9 f1
      obtain ⟨A, c, l, rfl, a1, a2, a3, a4⟩ := field_votes f2
      simp only [List.cons.injEq, and_true] at e0 e1
      subst e0 e1
      exact ⟨cc, b, A, c, l, rfl, w1, a1, a2, a3, a4⟩
set_option maxRecDepth 100000 in
/-- A slice of votes, an argument. -/
theorem open_votes {W : World} {v : Value} {d : DataW H} {p : List MemPlace} {base : Nat} (hv : Value.okWide Tryd.prog W .any base 25 v) (h : DataW.Trod enc Tryd.prog W 0 (fun _ => true) true 25 v d p) :
    ∃ (A : Option Addr) (c : Nat) (l : List Dg.Vt), v = .slice A l.length c ∧ l.length ≤ 9223372036854775807 ∧ (∀ v ∈ l, VtW v) ∧ Vts W W.heap.size A l ∧ l.length ≤ c := by
  obtain ⟨a0, len, cap, rfl⟩ := okWide_slice Tryd.underlying25 hv
  obtain ⟨fuel, hf⟩ := h
  exact field_votes (by simpa [Value.cells] using hf)
set_option maxRecDepth 100000 in
/-- A vote, an argument. -/
theorem open_vote {W : World} {v : Value} {d : DataW H} {p : List MemPlace} {base : Nat} (hv : Value.okWide Tryd.prog W .any base 33 v) (h : DataW.Trod enc Tryd.prog W 0 (fun _ => true) true 33 v d p) :
    ∃ (x : Dg.Vt) (A1 A2 : Option Addr) (e1 e2 : Nat), v = .agg (voteV x A1 A2 e1 e2) ∧ VtW x ∧ VtIn W W.heap.size x A1 A2 e1 e2 := by
  obtain ⟨cs, rfl, hsz⟩ := okWide_struct Tryd.underlying33 hv
  obtain ⟨fuel, hf⟩ := h
  obtain ⟨x, A1, A2, e1, e2, hc, hw, hin⟩ := trod_vote (cs := cs.toList) (by simpa [Value.cells] using hf)
  exact ⟨x, A1, A2, e1, e2, by rw [← Array.toArray_toList (xs := cs), hc], hw, hin⟩
end Go.Proofs.YtgncahnkkpjdpaaDoor
/- The examples of pandectlaw39: what the forged vote's seal comes to. -/
namespace Go.Proofs.YtgncahnkkpjdpaaDoor
open Go
def xbill : ByteArray := ⟨#[48, 49, 50, 51, 52, 53, 54, 55, 56, 57, 97, 98, 99, 100, 101, 102]⟩
def xb : ByteArray := ⟨#[98]⟩
set_option maxRecDepth 1000000 in
set_option maxHeartbeats 4000000 in
theorem forged_no : verifyB (Dg.publicB xb 1) (Dg.msgB 1 xbill 1 false) 0 (Dg.sigB xb 0 (Dg.msgB 1 xbill 1 true)) (Dg.sealPath xb 1 0) = false := by decide +kernel
end Go.Proofs.YtgncahnkkpjdpaaDoor
/- A region's condition may be made stronger on the way. Votes in a literal. No conditions. -/
namespace Go.Proofs.YtgncahnkkpjdpaaDoor
open Go Go.RowKit
section
variable {P : Program} {ops : Array Oper} {Q : Exit → Act → World → Prop} {md : Region.Mode} {S S' : World → Prop} {k : Nat}
theorem wpAnyL_mono (hS : ∀ w, S' w → S w) : ∀ (fuel : Nat) (listed : Array Bool) (a : Act) (w : World), wpAnyL P md ops Q S' k fuel listed a w → wpAnyL P md ops Q S k fuel listed a w
  | 0, _, _, _, h => h
  | fuel + 1, _, _, _, h => ⟨h.1, fun i hi => wpOp_mono (fun a' w' h' => ⟨h'.1.imp id (hS w'), wpAnyL_mono hS fuel _ a' w' h'.2⟩) (h.2 i hi)⟩
theorem SL_ne {i : Nat} (hik : i ≠ k) {listed : Array Bool} {w : World} : SL S k (listed.setIfInBounds i true) w ↔ SL S k listed w := by
  unfold SL
  rw [getD_set_ne false hik]
theorem wpAnyL_first0 {i : Nat} {oi : Oper} {v : Value} (hi : ops[i]? = some oi) (hsel : ∀ (j : Nat) (o : Oper) cs b, ops[j]? = some o → o.op ≠ .select cs b)
    (hQ : ∀ c a w, Q (.panic c) (a.put oi.dst v) w → Q (.panic c) a w) (hik : i ≠ k) :
    ∀ (fuel : Nat) (listed : Array Bool) (a : Act) (w : World),
      (∀ j oj, ops[j]? = some oj → j ≠ i → listed.getD j true = false → (∀ e ∈ oj.after, Region.binds md e = true → e.on ≠ i) → oi.apart ops oj = true) →
      i ∈ Region.ready md ops listed → YieldsIf P ops (fun _ => True) oi v a → SL S k listed w →
      wpAnyL P md ops Q S k fuel (listed.setIfInBounds i true) (a.put oi.dst v) w → wpAnyL P md ops Q S k (fuel + 1) listed a w := by
  intro fuel
  induction fuel with
  | zero =>
    intro listed a w _ hr hy hS H
    refine ⟨fun h => (by rw [h] at hr; cases hr), fun j hj => ?_⟩
    by_cases hji : j = i
    · subst hji; exact hy.wpOp hi trivial ⟨(SL_ne hik).2 hS, H⟩
    · have := ready_mono hj hji
      rw [H.1] at this
      cases this
  | succ fuel ih =>
    intro listed a w hfree hr hy hS H
    refine ⟨fun h => (by rw [h] at hr; cases hr), fun j hj => ?_⟩
    by_cases hji : j = i
    · subst hji; exact hy.wpOp hi trivial ⟨(SL_ne hik).2 hS, H⟩
    · have hiu := getD_false_true (mem_ready.1 hr).1
      have h1 := H.2 j (ready_mono hj hji)
      obtain ⟨hjun, oj, hoj, hall⟩ := mem_ready.1 hj
      have hnot : ∀ e ∈ oj.after, Region.binds md e = true → e.on ≠ i := fun e he hb heq => by
        have h1 := hall e he hb
        rw [heq, hiu] at h1
        cases h1
      have h2 := wpOp_putIf hoj (hfree j oj hoj hji hjun hnot) (fun cs b => hsel i oi cs b hi) (fun cs b => hsel j oj cs b hoj) hQ hy h1
      have hfree' : ∀ n on, ops[n]? = some on → n ≠ i → (listed.setIfInBounds j true).getD n true = false →
          (∀ e ∈ on.after, Region.binds md e = true → e.on ≠ i) → oi.apart ops on = true := fun n on hn hni hun hno => by
        refine hfree n on hn hni ?_ hno
        by_cases hjn : j = n
        · subst hjn; exact hjun
        · rw [getD_set_ne true hjn] at hun; exact hun
      refine wpOp_mono (fun a' w' h3 => ?_) h2
      have h4 : SL S k (listed.setIfInBounds j true) w' := by
        have := h3.2.1
        rw [Array.setIfInBounds_comm _ _ (Ne.symm hji)] at this
        exact (SL_ne hik).1 this
      refine ⟨h4, ih (listed.setIfInBounds j true) a' w' hfree' (ready_mono hr (Ne.symm hji)) h3.1 h4 ?_⟩
      rw [Array.setIfInBounds_comm _ _ hji]
      exact h3.2.2
/-- An operation that yields in whatever world is taken first. -/
theorem wpAnyL_take0 {i : Nat} {oi : Oper} {v : Value} {fuel : Nat} {listed : Array Bool} {a : Act} {w : World} (hi : ops[i]? = some oi)
    (hs : Region.noSelect ops = true) (hf : Region.free md ops listed i = true) (hr : (Region.ready md ops listed).contains i = true) (hik : i ≠ k)
    (hQ : ∀ c a w, Q (.panic c) (a.put oi.dst v) w → Q (.panic c) a w) (hy : YieldsIf P ops (fun _ => True) oi v a) (hS : SL S k listed w)
    (h : wpAnyL P md ops Q S k fuel (listed.setIfInBounds i true) (a.put oi.dst v) w) : wpAnyL P md ops Q S k (fuel + 1) listed a w :=
  wpAnyL_first0 hi (Region.noSelect_spec hs) hQ hik fuel listed a w (Region.free_spec hi hf) (by simpa using hr) hy hS h
end
theorem OwnL.drewM {W : World} {B : Nat} {rs : List (Value × TypeId × List Value)} (h : OwnL W B rs) : OwnL W.drew B rs := ⟨fun r hr => h.own r hr, h.apart⟩
theorem OwnL.strsM {W : World} {B : Nat} {v : Value} {l : List ByteArray} {rs : List (Value × TypeId × List Value)} (h : OwnL W B (sR v l :: rs)) : ∃ A c, v = .slice A l.length c ∧ l.length ≤ c ∧ Strs W W.heap.size A l := h.headS.strs
/-- A cell that none of these texts lies in. -/
def Off (A : Option Addr) (n : Nat) (p : Addr) : Prop := ∀ b off, A = some ⟨b, off, none⟩ → ∀ j, j < n → p ≠ ⟨b, off + j, none⟩
theorem Strs.off {w : World} {B : Nat} {A : Option Addr} {l : List ByteArray} (h : Strs w B A l) {p : Addr} {z : Value} (hp : w.cell? p = some z) (hz : ∀ s ∈ l, z ≠ .string s) : Off A l.length p := fun b off e j hj he => by
  obtain ⟨b', off', e', _, hc⟩ := h.at_ (by omega)
  rw [e] at e'
  cases e'
  have := hc j l[j] (List.getElem?_eq_getElem hj)
  rw [← he, hp] at this
  exact hz _ (List.getElem_mem hj) (Option.some.inj this)
theorem Strs.setOff {w : World} {B : Nat} {A : Option Addr} {l : List ByteArray} (h : Strs w B A l) {p : Addr} (ho : Off A l.length p) (u : Value) : Strs (w.setCell p u) B A l :=
  ⟨fun h0 => by
    obtain ⟨b, off, e, hb, hc⟩ := h.at_ h0
    exact ⟨b, off, e, hb, fun j s hj => (by apply World.cell?_setCell_other; exact ho b off e j (List.getElem?_eq_some_iff.1 hj).1 : (w.setCell p u).cell? ⟨b, off + j, none⟩ = w.cell? ⟨b, off + j, none⟩).trans (hc j s hj)⟩⟩
/-- A vote as it lies in memory. -/
structure VtC where
  v : Dg.Vt
  A1 : Option Addr
  A2 : Option Addr
  e1 : Nat
  e2 : Nat
def VtC.cells (c : VtC) : List Value := [.int .i64 c.v.mem, .string c.v.bill, .int .i64 c.v.cham, .bool c.v.yes, .int .i64 c.v.idx, .slice c.A1 c.v.sig.length c.e1, .slice c.A2 c.v.path.length c.e2]
theorem flat_get : ∀ (cs : List VtC) (j i : Nat) (c : VtC), cs[j]? = some c → i < 7 → (cs.flatMap VtC.cells)[j * 7 + i]? = c.cells[i]?
  | [], j, i, c, h, _ => by simp at h
  | a :: cs, 0, i, c, h, hi => by
    obtain rfl : a = c := by simpa using h
    rw [List.flatMap_cons, Nat.zero_mul, Nat.zero_add, List.getElem?_append_left (by exact hi)]
  | a :: cs, j + 1, i, c, h, hi => by
    have h7 : a.cells.length = 7 := rfl
    rw [List.flatMap_cons, List.getElem?_append_right (by omega), h7, show (j + 1) * 7 + i - 7 = j * 7 + i by omega]
    exact flat_get cs j i c (by simpa using h) hi
theorem VtIn.below {w w' : World} {B : Nat} {v : Dg.Vt} {A1 A2 : Option Addr} {e1 e2 : Nat} (h : VtIn w B v A1 A2 e1 e2) (hb : Below B w w') : VtIn w' B v A1 A2 e1 e2 := ⟨h.1.below hb, h.2.1, h.2.2.1.below hb, h.2.2.2⟩
theorem VtIn.more {w : World} {B B' : Nat} {v : Dg.Vt} {A1 A2 : Option Addr} {e1 e2 : Nat} (h : VtIn w B v A1 A2 e1 e2) (hB : B ≤ B') : VtIn w B' v A1 A2 e1 e2 := ⟨h.1.more hB, h.2.1, h.2.2.1.more hB, h.2.2.2⟩
/-- Votes that lie in a block from its beginning. -/
theorem Vts.row {w : World} {B g : Nat} {cs : List VtC} {xs : Array Value} {T : TypeId} (hr : w.heap[g]? = some (.cells xs T (0, 0))) (hx : xs.toList = cs.flatMap VtC.cells) (hg : g < B) (hin : ∀ c ∈ cs, VtIn w B c.v c.A1 c.A2 c.e1 c.e2) : Vts w B (some ⟨g, 0, none⟩) (cs.map VtC.v) :=
  ⟨fun _ => ⟨g, 0, rfl, hg, fun j v hj => by
    rw [List.getElem?_map] at hj
    cases hc : cs[j]? with
    | none => rw [hc] at hj; cases hj
    | some c =>
      rw [hc] at hj
      obtain rfl : c.v = v := by simpa using hj
      refine ⟨c.A1, c.A2, c.e1, c.e2, hin c (List.mem_of_getElem? hc), fun i u hu => ?_⟩
      have hi : i < 7 := (Array.getElem?_eq_some_iff.1 hu).1
      rw [cell_of_row _ _ _ _ _ (0, 0) hr, Nat.zero_add, ← Array.getElem?_toList, hx, flat_get cs j i c hc hi]
      rw [← Array.getElem?_toList] at hu
      exact hu⟩⟩
/-- Votes in a literal. -/
theorem Vts.lit (w : World) (cs : List VtC) (xs : Array Value) (T : TypeId) (hx : xs.toList = cs.flatMap VtC.cells) (hin : ∀ c ∈ cs, VtIn w w.heap.size c.v c.A1 c.A2 c.e1 c.e2) : Vts (w.alloc (.cells xs T)) (w.alloc (.cells xs T)).heap.size (some ⟨w.heap.size, 0, none⟩) (cs.map VtC.v) :=
  Vts.row (heap_alloc_new w _) hx (by simp) fun c hc => (hin c hc).keep ((Below.refl _ _).alloc (Nat.le_refl _) _)
end Go.Proofs.YtgncahnkkpjdpaaDoor
/- Signed votes of the examples of pandectlaw39. No conditions but those that each theorem states. -/
namespace Go.Proofs.YtgncahnkkpjdpaaDoor
open Go Go.RowKit Go.Sort Go.Maps
/-- The secrets of the examples. -/
def xsecs : List ByteArray := [⟨#[97]⟩, ⟨#[98]⟩, ⟨#[99]⟩]
/-- A signed vote of the examples. -/
def signedV (s : ByteArray) (m i : Nat) (y : Bool) : Dg.Vt := ⟨m, xbill, 1, y, i, Dg.sigB s i (Dg.msgB m xbill 1 y), Dg.sealPath s 1 i⟩
/-- What signed hands back. -/
def SignedOut (v : Dg.Vt) (w : World) (r : Ending) (w' : World) : Prop :=
  ∃ A1 A2 e1 e2, r = .returned (.agg (voteV v A1 A2 e1 e2)) ∧ VtIn w' w'.heap.size v A1 A2 e1 e2 ∧ Below w.heap.size w w'
set_option maxRecDepth 100000 in
set_option maxHeartbeats 4000000 in
theorem signed_any (m i : Nat) (y : Bool) (s : ByteArray) (hm : xsecs[m]? = some s) (hi : i < 2) (w : World) (he : Env w) :
    Calls Tryd.prog 24 #[.int .i64 (m : Int), .int .i64 (i : Int), .bool y] w (SignedOut (signedV s m i y) w) := by
  have hm3 : m < 3 := (List.getElem?_eq_some_iff.1 hm).1
  have hsz : s.size ≤ 1073741824 := by
    have := List.mem_of_getElem? hm
    simp only [xsecs, List.mem_cons, List.not_mem_nil, or_false] at this
    rcases this with rfl | rfl | rfl <;> decide
  have hml := hide (show (#[Value.string ⟨#[97]⟩, .string ⟨#[98]⟩, .string ⟨#[99]⟩])[m]? = some (.string s) from by
    have h1 : (xsecs.map Value.string)[m]? = some (.string s) := by rw [List.getElem?_map, hm]; rfl
    rw [← Array.getElem?_toList]; exact h1)
  have hbz : (⟨#[48, 49, 50, 51, 52, 53, 54, 55, 56, 57, 97, 98, 99, 100, 101, 102]⟩ : ByteArray).size ≤ 1073741824 := by decide
  have hL := OwnL.lit (OwnL.lit (OwnL.nil w w.heap.size) (Nat.le_refl _) #[.int .i64 0, .string ⟨#[]⟩, .int .i64 0, .bool false, .int .i64 0, .slice none 0 0, .slice none 0 0] 33 7 rfl (by unfold maxLen; omega)) (by simp) #[.int .i64 (m : Int), .string ⟨#[48, 49, 50, 51, 52, 53, 54, 55, 56, 57, 97, 98, 99, 100, 101, 102]⟩, .int .i64 1, .bool y, .int .i64 0, .slice none 0 0, .slice none 0 0] 33 7 rfl (by unfold maxLen; omega)
  have hb := (((Below.refl w.heap.size w).alloc (Nat.le_refl _) (.cells #[.int .i64 0, .string ⟨#[]⟩, .int .i64 0, .bool false, .int .i64 0, .slice none 0 0, .slice none 0 0] 33)).alloc (by simp) (.cells #[.int .i64 (m : Int), .string ⟨#[48, 49, 50, 51, 52, 53, 54, 55, 56, 57, 97, 98, 99, 100, 101, 102]⟩, .int .i64 1, .bool y, .int .i64 0, .slice none 0 0, .slice none 0 0] 33))
  have hg2 : (w.alloc (.cells #[.int .i64 0, .string ⟨#[]⟩, .int .i64 0, .bool false, .int .i64 0, .slice none 0 0, .slice none 0 0] 33)).heap.size = w.heap.size + 1 := by simp
  rw [hg2] at hL
  obtain ⟨v0, v1, v2, v3, v4, v5, v6⟩ := cells7 (OwnV.row hL.head)
  replace he := (he.alloc (.cells #[.int .i64 0, .string ⟨#[]⟩, .int .i64 0, .bool false, .int .i64 0, .slice none 0 0, .slice none 0 0] 33)).alloc (.cells #[.int .i64 (m : Int), .string ⟨#[48, 49, 50, 51, 52, 53, 54, 55, 56, 57, 97, 98, 99, 100, 101, 102]⟩, .int .i64 1, .bool y, .int .i64 0, .slice none 0 0, .slice none 0 0] 33)
  obtain ⟨M, hM⟩ : ∃ M, Dg.msgB m ⟨#[48, 49, 50, 51, 52, 53, 54, 55, 56, 57, 97, 98, 99, 100, 101, 102]⟩ 1 y = M := ⟨_, rfl⟩
  have hMz : M.size = 16 := by rw [← hM]; exact Dg.listB_size _
  have hSG : signedV s m i y = ⟨m, ⟨#[48, 49, 50, 51, 52, 53, 54, 55, 56, 57, 97, 98, 99, 100, 101, 102]⟩, 1, y, i, Dg.sigB s i M, Dg.sealPath s 1 i⟩ := by unfold signedV xbill; rw [hM]
  have h1 := Dg.sigB_len s i M
  have h2 := Dg.sealPath_len s 1 i hi
  have hn1 : ∀ t ∈ Dg.sigB s i M, Value.string ⟨#[]⟩ ≠ .string t := fun t ht e => by
    have := Dg.isB_len (Dg.sigB_isB s i M t ht)
    injection e with e
    rw [← e] at this
    cases this
  have hn2 : ∀ t ∈ Dg.sealPath s 1 i, Value.string ⟨#[]⟩ ≠ .string t := fun t ht e => by
    have := Dg.isB_len (Dg.sealPath_isB s 1 i t ht)
    injection e with e
    rw [← e] at this
    cases this
  generalize hG : Dg.sigB s i M = SG at *
  generalize hP : Dg.sealPath s 1 i = PT at *
  have HM := hide hM; have HG := hide hG; have HP := hide hP; have HSG := hide hSG; have H1 := hide h1; have H2 := hide h2
  clear hM hG hP hSG h1 h2 hm
  go_enter Tryd.func24, Tryd.ntmps24
  go_wp2_with fail
  generalize (w.alloc (.cells #[.int .i64 0, .string ⟨#[]⟩, .int .i64 0, .bool false, .int .i64 0, .slice none 0 0, .slice none 0 0] 33)).alloc (.cells #[.int .i64 (m : Int), .string ⟨#[48, 49, 50, 51, 52, 53, 54, 55, 56, 57, 97, 98, 99, 100, 101, 102]⟩, .int .i64 1, .bool y, .int .i64 0, .slice none 0 0, .slice none 0 0] 33) = W0 at *
  generalize hg : w.heap.size + 1 = g at *
  have hmx : Tryd.prog.follows .mixedOrders = true := by kernel_rfl
  have hHeld : (fun W : World => W.cell? ⟨g, 0, none⟩ = some (.int .i64 (m : Int)) ∧ W.cell? ⟨g, 1, none⟩ = some (.string ⟨#[48, 49, 50, 51, 52, 53, 54, 55, 56, 57, 97, 98, 99, 100, 101, 102]⟩) ∧ W.cell? ⟨g, 2, none⟩ = some (.int .i64 1) ∧ W.cell? ⟨g, 3, none⟩ = some (.bool y) ∧ W.cell? ⟨g, 4, none⟩ = some (.int .i64 0) ∧ W.cell? ⟨g, 5, none⟩ = some (.slice none 0 0) ∧ W.cell? ⟨g, 6, none⟩ = some (.slice none 0 0)) W0.drew := ⟨v0, v1, v2, v3, v4, v5, v6⟩
  replace hb := hb.drew
  replace hL := hL.drewM
  replace he := he.next (Below.refl W0.heap.size W0).drew
  have hm0 : (0 : Int) ≤ (m : Int) := by omega
  have hm1 : (m : Int) < 3 := by omega
  clear v0 v1 v2 v3 v4 v5 v6 hg2
  refine wp_region_noPanic ?_
  refine wp_region_L (fun W : World => W.cell? ⟨g, 0, none⟩ = some (.int .i64 (m : Int)) ∧ W.cell? ⟨g, 1, none⟩ = some (.string ⟨#[48, 49, 50, 51, 52, 53, 54, 55, 56, 57, 97, 98, 99, 100, 101, 102]⟩) ∧ W.cell? ⟨g, 2, none⟩ = some (.int .i64 1) ∧ W.cell? ⟨g, 3, none⟩ = some (.bool y) ∧ W.cell? ⟨g, 4, none⟩ = some (.int .i64 0) ∧ W.cell? ⟨g, 5, none⟩ = some (.slice none 0 0) ∧ W.cell? ⟨g, 6, none⟩ = some (.slice none 0 0)) 12 hmx ?_
  generalize W0.drew = W1 at *
  refine wpAnyL_take (i := 1) (f0 := 14) (v := ?_) rfl (by decide +kernel) (by decide +kernel) (by decide +kernel) (by decide +kernel) (by decide +kernel) (fun _ _ _ h => h) (Or.inl ⟨by rfl, ?_⟩) hHeld ?_
  rotate_left
  · intro wS hS; obtain ⟨hS1, hS2, hS3, hS4, hS5, hS6, hS7⟩ := hS; go_simp; (try with_reducible rfl)
  simp only [Act.put, List.getElem_toArray, List.getElem_cons_succ, List.getElem_cons_zero, List.setIfInBounds_toArray, List.set_cons_succ, List.set_cons_zero]
  refine wpAnyL_take (i := 4) (f0 := 14) (v := ?_) rfl (by decide +kernel) (by decide +kernel) (by decide +kernel) (by decide +kernel) (by decide +kernel) (fun _ _ _ h => h) (Or.inl ⟨by rfl, ?_⟩) hHeld ?_
  rotate_left
  · intro wS hS; obtain ⟨hS1, hS2, hS3, hS4, hS5, hS6, hS7⟩ := hS; go_simp; (try with_reducible rfl)
  simp only [Act.put, List.getElem_toArray, List.getElem_cons_succ, List.getElem_cons_zero, List.setIfInBounds_toArray, List.set_cons_succ, List.set_cons_zero]
  refine wpAnyL_take (i := 5) (f0 := 14) (v := ?_) rfl (by decide +kernel) (by decide +kernel) (by decide +kernel) (by decide +kernel) (by decide +kernel) (fun _ _ _ h => h) (Or.inl ⟨by rfl, ?_⟩) hHeld ?_
  rotate_left
  · intro wS hS; obtain ⟨hS1, hS2, hS3, hS4, hS5, hS6, hS7⟩ := hS; go_simp; (try with_reducible rfl)
  simp only [Act.put, List.getElem_toArray, List.getElem_cons_succ, List.getElem_cons_zero, List.setIfInBounds_toArray, List.set_cons_succ, List.set_cons_zero]
  refine wpAnyL_two (i := 0) (j := 6) (by decide +kernel) (by rfl) (by rfl) (fun K hK => ?_) (fun K hK => ?_)
  · skip
    rw [if_pos (by rfl)]
    go_simp
    have hxl := Below.news (Below.refl W1.heap.size W1) (.cells #[.string ⟨#[97]⟩, .string ⟨#[98]⟩, .string ⟨#[99]⟩] 9)
    have hcl : (W1.alloc (.cells #[.string ⟨#[97]⟩, .string ⟨#[98]⟩, .string ⟨#[99]⟩] 9)).cell? ⟨W1.heap.size, m, none⟩ = some (.string s) := by rw [cell_of_row _ _ _ _ _ (0, 0) (heap_alloc_new _ _)]; exact hml.out
    have hX : (fun W : World => W.cell? ⟨g, 0, none⟩ = some (.int .i64 (m : Int)) ∧ W.cell? ⟨g, 1, none⟩ = some (.string ⟨#[48, 49, 50, 51, 52, 53, 54, 55, 56, 57, 97, 98, 99, 100, 101, 102]⟩) ∧ W.cell? ⟨g, 2, none⟩ = some (.int .i64 1) ∧ W.cell? ⟨g, 3, none⟩ = some (.bool y) ∧ W.cell? ⟨g, 4, none⟩ = some (.int .i64 0) ∧ W.cell? ⟨g, 5, none⟩ = some (.slice none 0 0) ∧ W.cell? ⟨g, 6, none⟩ = some (.slice none 0 0)) (W1.alloc (.cells #[.string ⟨#[97]⟩, .string ⟨#[98]⟩, .string ⟨#[99]⟩] 9)) := ⟨(hxl.cell (block_lt_of_cell hHeld.1)).trans hHeld.1, (hxl.cell (block_lt_of_cell hHeld.2.1)).trans hHeld.2.1, (hxl.cell (block_lt_of_cell hHeld.2.2.1)).trans hHeld.2.2.1, (hxl.cell (block_lt_of_cell hHeld.2.2.2.1)).trans hHeld.2.2.2.1, (hxl.cell (block_lt_of_cell hHeld.2.2.2.2.1)).trans hHeld.2.2.2.2.1, (hxl.cell (block_lt_of_cell hHeld.2.2.2.2.2.1)).trans hHeld.2.2.2.2.2.1, (hxl.cell (block_lt_of_cell hHeld.2.2.2.2.2.2)).trans hHeld.2.2.2.2.2.2⟩
    clear hHeld
    have hHeld := hX; clear hX
    replace hb := bnext hb hxl
    replace hL := hL.below hxl
    replace he := he.next hxl
    refine hK.out _ _ (Or.inr hHeld) ?_
    clear hK K
    try simp only [Act.put, List.getElem_toArray, List.getElem_cons_succ, List.getElem_cons_zero, List.setIfInBounds_toArray, List.set_cons_succ, List.set_cons_zero]
    generalize hgl : W1.heap.size = gl at *
    generalize W1.alloc (.cells #[.string ⟨#[97]⟩, .string ⟨#[98]⟩, .string ⟨#[99]⟩] 9) = W2 at *
    refine wpAnyL_mono (S' := fun W : World => (W.cell? ⟨g, 0, none⟩ = some (.int .i64 (m : Int)) ∧ W.cell? ⟨g, 1, none⟩ = some (.string ⟨#[48, 49, 50, 51, 52, 53, 54, 55, 56, 57, 97, 98, 99, 100, 101, 102]⟩) ∧ W.cell? ⟨g, 2, none⟩ = some (.int .i64 1) ∧ W.cell? ⟨g, 3, none⟩ = some (.bool y) ∧ W.cell? ⟨g, 4, none⟩ = some (.int .i64 0) ∧ W.cell? ⟨g, 5, none⟩ = some (.slice none 0 0) ∧ W.cell? ⟨g, 6, none⟩ = some (.slice none 0 0)) ∧ W.cell? ⟨gl, m, none⟩ = some (.string s)) (fun _ h => h.1) _ _ _ _ ?_
    have hHeld2 := And.intro hHeld hcl
    refine wpAnyL_take (i := 2) (f0 := 14) (v := ?_) rfl (by decide +kernel) (by decide +kernel) (by decide +kernel) (by decide +kernel) (by decide +kernel) (fun _ _ _ h => h) (Or.inl ⟨by rfl, ?_⟩) hHeld2 ?_
    rotate_left
    · intro wS hS; obtain ⟨⟨hS1, hS2, hS3, hS4, hS5, hS6, hS7⟩, hS8⟩ := hS; go_simp; (try with_reducible rfl)
    simp only [Act.put, List.getElem_toArray, List.getElem_cons_succ, List.getElem_cons_zero, List.setIfInBounds_toArray, List.set_cons_succ, List.set_cons_zero]
    refine wpAnyL_take (i := 3) (f0 := 14) (v := ?_) rfl (by decide +kernel) (by decide +kernel) (by decide +kernel) (by decide +kernel) (by decide +kernel) (fun _ _ _ h => h) (Or.inl ⟨by rfl, ?_⟩) hHeld2 ?_
    rotate_left
    · intro wS hS; obtain ⟨⟨hS1, hS2, hS3, hS4, hS5, hS6, hS7⟩, hS8⟩ := hS; go_simp; (try with_reducible rfl)
    simp only [Act.put, List.getElem_toArray, List.getElem_cons_succ, List.getElem_cons_zero, List.setIfInBounds_toArray, List.set_cons_succ, List.set_cons_zero]
    refine wpAnyL_one (i := 6) (by decide +kernel) (by rfl) (fun K hK => ?_)
    rw [if_pos (by rfl)]
    go_simp
    refine (vmsg_any m ⟨#[48, 49, 50, 51, 52, 53, 54, 55, 56, 57, 97, 98, 99, 100, 101, 102]⟩ 1 y _ _ _ (by omega) (by omega) (by omega) (by omega) hbz M HM.out W2 he).mono ?_
    rintro r W4 ⟨rfl, hbm⟩
    have hX : (fun W : World => (W.cell? ⟨g, 0, none⟩ = some (.int .i64 (m : Int)) ∧ W.cell? ⟨g, 1, none⟩ = some (.string ⟨#[48, 49, 50, 51, 52, 53, 54, 55, 56, 57, 97, 98, 99, 100, 101, 102]⟩) ∧ W.cell? ⟨g, 2, none⟩ = some (.int .i64 1) ∧ W.cell? ⟨g, 3, none⟩ = some (.bool y) ∧ W.cell? ⟨g, 4, none⟩ = some (.int .i64 0) ∧ W.cell? ⟨g, 5, none⟩ = some (.slice none 0 0) ∧ W.cell? ⟨g, 6, none⟩ = some (.slice none 0 0)) ∧ W.cell? ⟨gl, m, none⟩ = some (.string s)) W4 := ⟨⟨(hbm.cell (block_lt_of_cell hHeld2.1.1)).trans hHeld2.1.1, (hbm.cell (block_lt_of_cell hHeld2.1.2.1)).trans hHeld2.1.2.1, (hbm.cell (block_lt_of_cell hHeld2.1.2.2.1)).trans hHeld2.1.2.2.1, (hbm.cell (block_lt_of_cell hHeld2.1.2.2.2.1)).trans hHeld2.1.2.2.2.1, (hbm.cell (block_lt_of_cell hHeld2.1.2.2.2.2.1)).trans hHeld2.1.2.2.2.2.1, (hbm.cell (block_lt_of_cell hHeld2.1.2.2.2.2.2.1)).trans hHeld2.1.2.2.2.2.2.1, (hbm.cell (block_lt_of_cell hHeld2.1.2.2.2.2.2.2)).trans hHeld2.1.2.2.2.2.2.2⟩, (hbm.cell (block_lt_of_cell hHeld2.2)).trans hHeld2.2⟩
    clear hHeld2
    have hHeld2 := hX; clear hX
    replace hb := bnext hb hbm
    replace hL := hL.below hbm
    replace he := he.next hbm
    refine hK.out _ _ (Or.inr hHeld2) ?_
    clear hK K
    try simp only [Act.put, List.getElem_toArray, List.getElem_cons_succ, List.getElem_cons_zero, List.setIfInBounds_toArray, List.set_cons_succ, List.set_cons_zero]
    refine wpAnyL_one (i := 7) (by decide +kernel) (by rfl) (fun K hK => ?_)
    rw [if_pos (by rfl)]
    go_simp
    refine (sign_of s M 1 i 1 i rfl rfl hsz (by rw [hMz]; decide) (by decide) hi SG PT HG.out HP.out _ he).mono ?_
    rintro r W5 ⟨A, c, A2, c2, rfl, hc, hc2, hS, hS2, hbs⟩
    have hX : (fun W : World => (W.cell? ⟨g, 0, none⟩ = some (.int .i64 (m : Int)) ∧ W.cell? ⟨g, 1, none⟩ = some (.string ⟨#[48, 49, 50, 51, 52, 53, 54, 55, 56, 57, 97, 98, 99, 100, 101, 102]⟩) ∧ W.cell? ⟨g, 2, none⟩ = some (.int .i64 1) ∧ W.cell? ⟨g, 3, none⟩ = some (.bool y) ∧ W.cell? ⟨g, 4, none⟩ = some (.int .i64 0) ∧ W.cell? ⟨g, 5, none⟩ = some (.slice none 0 0) ∧ W.cell? ⟨g, 6, none⟩ = some (.slice none 0 0)) ∧ W.cell? ⟨gl, m, none⟩ = some (.string s)) W5 := ⟨⟨(hbs.cell (block_lt_of_cell hHeld2.1.1)).trans hHeld2.1.1, (hbs.cell (block_lt_of_cell hHeld2.1.2.1)).trans hHeld2.1.2.1, (hbs.cell (block_lt_of_cell hHeld2.1.2.2.1)).trans hHeld2.1.2.2.1, (hbs.cell (block_lt_of_cell hHeld2.1.2.2.2.1)).trans hHeld2.1.2.2.2.1, (hbs.cell (block_lt_of_cell hHeld2.1.2.2.2.2.1)).trans hHeld2.1.2.2.2.2.1, (hbs.cell (block_lt_of_cell hHeld2.1.2.2.2.2.2.1)).trans hHeld2.1.2.2.2.2.2.1, (hbs.cell (block_lt_of_cell hHeld2.1.2.2.2.2.2.2)).trans hHeld2.1.2.2.2.2.2.2⟩, (hbs.cell (block_lt_of_cell hHeld2.2)).trans hHeld2.2⟩
    clear hHeld2
    have hHeld2 := hX; clear hX
    replace hb := bnext hb hbs
    replace hL := hL.below hbs
    refine hK.out _ _ (Or.inr hHeld2) ?_
    clear hK K
    try simp only [Act.put, List.getElem_toArray, List.getElem_cons_succ, List.getElem_cons_zero, List.setIfInBounds_toArray, List.set_cons_succ, List.set_cons_zero]
    refine wpAnyL_take (i := 8) (f0 := 14) (v := ?_) rfl (by decide +kernel) (by decide +kernel) (by decide +kernel) (by decide +kernel) (by decide +kernel) (fun _ _ _ h => h) (Or.inl ⟨by rfl, ?_⟩) hHeld2 ?_
    rotate_left
    · intro wS hS; obtain ⟨⟨hS1, hS2, hS3, hS4, hS5, hS6, hS7⟩, hS8⟩ := hS; go_simp; (try with_reducible rfl)
    simp only [Act.put, List.getElem_toArray, List.getElem_cons_succ, List.getElem_cons_zero, List.setIfInBounds_toArray, List.set_cons_succ, List.set_cons_zero]
    refine wpAnyL_take (i := 9) (f0 := 14) (v := ?_) rfl (by decide +kernel) (by decide +kernel) (by decide +kernel) (by decide +kernel) (by decide +kernel) (fun _ _ _ h => h) (Or.inl ⟨by rfl, ?_⟩) hHeld2 ?_
    rotate_left
    · intro wS hS; obtain ⟨⟨hS1, hS2, hS3, hS4, hS5, hS6, hS7⟩, hS8⟩ := hS; go_simp; (try with_reducible rfl)
    simp only [Act.put, List.getElem_toArray, List.getElem_cons_succ, List.getElem_cons_zero, List.setIfInBounds_toArray, List.set_cons_succ, List.set_cons_zero]
    refine wpAnyL_take0 (i := 10) (v := ?_) rfl (by decide +kernel) (by decide +kernel) (by decide +kernel) (by decide) (fun _ _ _ h => h) (Or.inl ⟨by rfl, ?_⟩) (Or.inr hHeld2) ?_
    rotate_left
    · intro wS _; go_simp; (try with_reducible rfl)
    simp only [Act.put, List.getElem_toArray, List.getElem_cons_succ, List.getElem_cons_zero, List.setIfInBounds_toArray, List.set_cons_succ, List.set_cons_zero]
    refine wpAnyL_take (i := 11) (f0 := 14) (v := ?_) rfl (by decide +kernel) (by decide +kernel) (by decide +kernel) (by decide +kernel) (by decide +kernel) (fun _ _ _ h => h) (Or.inl ⟨by rfl, ?_⟩) hHeld2 ?_
    rotate_left
    · intro wS hS; obtain ⟨⟨hS1, hS2, hS3, hS4, hS5, hS6, hS7⟩, hS8⟩ := hS; go_simp; (try with_reducible rfl)
    simp only [Act.put, List.getElem_toArray, List.getElem_cons_succ, List.getElem_cons_zero, List.setIfInBounds_toArray, List.set_cons_succ, List.set_cons_zero]
    have hrow := OwnV.row hL.head
    have fz4 := frozen_of_row _ g 4 _ _ hrow
    have fz5 := frozen_of_row _ g 5 _ _ hrow
    have fz6 := frozen_of_row _ g 6 _ _ hrow
    obtain ⟨⟨p0, p1, p2, p3, p4, p5, p6⟩, p7⟩ := hHeld2
    have hgB := (hL.head.lt (g := g) rfl).1
    have hLx := ((hL.set 4 (.int .i64 (i : Int))).set 5 (.slice A 18 c)).set 6 (.slice A2 1 c2)
    have hbx := ((hb.setCell (p := ⟨g, 4, none⟩) hgB (.int .i64 (i : Int))).setCell (p := ⟨g, 5, none⟩) hgB (.slice A 18 c)).setCell (p := ⟨g, 6, none⟩) hgB (.slice A2 1 c2)
    refine wpAnyL_one (i := 12) (by decide +kernel) (by rfl) (fun K hK => ?_)
    rw [if_pos (by rfl)]
    go_simp
    refine hK.out _ _ (Or.inl (by decide +kernel)) ?_
    clear hK K
    try simp only [Act.put, List.getElem_toArray, List.getElem_cons_succ, List.getElem_cons_zero, List.setIfInBounds_toArray, List.set_cons_succ, List.set_cons_zero]
    refine wpAnyL_done (by decide +kernel) ?_ _
    refine NoPanic.normal ?_
    have hLy0 := hLx.swap.set 0 (.int .i64 (m : Int))
    have hLy1 := hLy0.set 1 (.string ⟨#[48, 49, 50, 51, 52, 53, 54, 55, 56, 57, 97, 98, 99, 100, 101, 102]⟩)
    have hLy2 := hLy1.set 2 (.int .i64 1)
    have hLy3 := hLy2.set 3 (.bool y)
    have hLy4 := hLy3.set 4 (.int .i64 (i : Int))
    have hLy5 := hLy4.set 5 (.slice A 18 c)
    have hLy6 := hLy5.set 6 (.slice A2 1 c2)
    have hby := (((((((hbx.setCell (p := ⟨w.heap.size, 0, none⟩) (Nat.le_refl _) (.int .i64 (m : Int))).setCell (p := ⟨w.heap.size, 1, none⟩) (Nat.le_refl _) (.string ⟨#[48, 49, 50, 51, 52, 53, 54, 55, 56, 57, 97, 98, 99, 100, 101, 102]⟩)).setCell (p := ⟨w.heap.size, 2, none⟩) (Nat.le_refl _) (.int .i64 1)).setCell (p := ⟨w.heap.size, 3, none⟩) (Nat.le_refl _) (.bool y)).setCell (p := ⟨w.heap.size, 4, none⟩) (Nat.le_refl _) (.int .i64 (i : Int))).setCell (p := ⟨w.heap.size, 5, none⟩) (Nat.le_refl _) (.slice A 18 c)).setCell (p := ⟨w.heap.size, 6, none⟩) (Nat.le_refl _) (.slice A2 1 c2))
    have hS6 := ((hS.setOff (hS.off p4 (fun _ _ => nofun)) (.int .i64 (i : Int))).setOff (hS.off p5 (fun _ _ => nofun)) (.slice A 18 c)).setOff (hS.off p6 (fun _ _ => nofun)) (.slice A2 1 c2)
    have hT6 := ((hS2.setOff (hS2.off p4 (fun _ _ => nofun)) (.int .i64 (i : Int))).setOff (hS2.off p5 (fun _ _ => nofun)) (.slice A 18 c)).setOff (hS2.off p6 (fun _ _ => nofun)) (.slice A2 1 c2)
    obtain ⟨k0, k1, k2, k3, k4, k5, k6⟩ := cells7 (OwnV.row hLy6.head)
    have hk := hide (And.intro k0 (And.intro k1 (And.intro k2 (And.intro k3 (And.intro k4 (And.intro k5 k6))))))
    clear k0 k1 k2 k3 k4 k5 k6 hLy0 hLy1 hLy2 hLy3 hLy4 hLy5 hLy6
    obtain ⟨q0, q1, q2, q3, q4, q5, q6⟩ := cells7 (OwnV.row hLx.head)
    have hrz := OwnV.row hLx.swap.head
    obtain ⟨z0, z1, z2, z3, z4, z5, z6⟩ := cells7 hrz
    have y0 := frozen_of_row _ w.heap.size 0 _ _ hrz
    have y1 := frozen_of_row _ w.heap.size 1 _ _ hrz
    have y2 := frozen_of_row _ w.heap.size 2 _ _ hrz
    have y3 := frozen_of_row _ w.heap.size 3 _ _ hrz
    have y4 := frozen_of_row _ w.heap.size 4 _ _ hrz
    have y5 := frozen_of_row _ w.heap.size 5 _ _ hrz
    have y6 := frozen_of_row _ w.heap.size 6 _ _ hrz
    have hS7 := (((((((hS6.setOff (hS6.off z0 (fun _ _ => nofun)) (.int .i64 (m : Int))).setOff (hS6.off z1 hn1) (.string ⟨#[48, 49, 50, 51, 52, 53, 54, 55, 56, 57, 97, 98, 99, 100, 101, 102]⟩)).setOff (hS6.off z2 (fun _ _ => nofun)) (.int .i64 1)).setOff (hS6.off z3 (fun _ _ => nofun)) (.bool y)).setOff (hS6.off z4 (fun _ _ => nofun)) (.int .i64 (i : Int))).setOff (hS6.off z5 (fun _ _ => nofun)) (.slice A 18 c)).setOff (hS6.off z6 (fun _ _ => nofun)) (.slice A2 1 c2))
    have hT7 := (((((((hT6.setOff (hT6.off z0 (fun _ _ => nofun)) (.int .i64 (m : Int))).setOff (hT6.off z1 hn2) (.string ⟨#[48, 49, 50, 51, 52, 53, 54, 55, 56, 57, 97, 98, 99, 100, 101, 102]⟩)).setOff (hT6.off z2 (fun _ _ => nofun)) (.int .i64 1)).setOff (hT6.off z3 (fun _ _ => nofun)) (.bool y)).setOff (hT6.off z4 (fun _ _ => nofun)) (.int .i64 (i : Int))).setOff (hT6.off z5 (fun _ _ => nofun)) (.slice A 18 c)).setOff (hT6.off z6 (fun _ _ => nofun)) (.slice A2 1 c2))
    clear p0 p1 p2 p3 p4 p5 p6 p7 fz4 fz5 fz6 hrow hrz hS6 hT6
    have hsz6 : (((W5.setCell ⟨g, 4, none⟩ (.int .i64 (i : Int))).setCell ⟨g, 5, none⟩ (.slice A 18 c)).setCell ⟨g, 6, none⟩ (.slice A2 1 c2)).heap.size = W5.heap.size := by simp
    generalize ((W5.setCell ⟨g, 4, none⟩ (.int .i64 (i : Int))).setCell ⟨g, 5, none⟩ (.slice A 18 c)).setCell ⟨g, 6, none⟩ (.slice A2 1 c2) = W6 at *
    rw [← hsz6] at hS7 hT7
    clear hS hS2 hLx hL hb hbx
    go_wp2
    have hsz7 : (((((((W6.setCell ⟨w.heap.size, 0, none⟩ (.int .i64 (m : Int))).setCell ⟨w.heap.size, 1, none⟩ (.string ⟨#[48, 49, 50, 51, 52, 53, 54, 55, 56, 57, 97, 98, 99, 100, 101, 102]⟩)).setCell ⟨w.heap.size, 2, none⟩ (.int .i64 1)).setCell ⟨w.heap.size, 3, none⟩ (.bool y)).setCell ⟨w.heap.size, 4, none⟩ (.int .i64 (i : Int))).setCell ⟨w.heap.size, 5, none⟩ (.slice A 18 c)).setCell ⟨w.heap.size, 6, none⟩ (.slice A2 1 c2)).heap.size = W6.heap.size := by simp
    rw [← hsz7] at hS7 hT7
    generalize (((((((W6.setCell ⟨w.heap.size, 0, none⟩ (.int .i64 (m : Int))).setCell ⟨w.heap.size, 1, none⟩ (.string ⟨#[48, 49, 50, 51, 52, 53, 54, 55, 56, 57, 97, 98, 99, 100, 101, 102]⟩)).setCell ⟨w.heap.size, 2, none⟩ (.int .i64 1)).setCell ⟨w.heap.size, 3, none⟩ (.bool y)).setCell ⟨w.heap.size, 4, none⟩ (.int .i64 (i : Int))).setCell ⟨w.heap.size, 5, none⟩ (.slice A 18 c)).setCell ⟨w.heap.size, 6, none⟩ (.slice A2 1 c2)) = F at *
    obtain ⟨k0, k1, k2, k3, k4, k5, k6⟩ := hk.out
    clear hk
    have hvv : voteV ⟨m, ⟨#[48, 49, 50, 51, 52, 53, 54, 55, 56, 57, 97, 98, 99, 100, 101, 102]⟩, 1, y, i, SG, PT⟩ A A2 c c2 = #[.int .i64 (m : Int), .string ⟨#[48, 49, 50, 51, 52, 53, 54, 55, 56, 57, 97, 98, 99, 100, 101, 102]⟩, .int .i64 1, .bool y, .int .i64 (i : Int), .slice A 18 c, .slice A2 1 c2] := by unfold voteV; rw [H1.out, H2.out]
    exact bodyPost_ret (v := .agg #[.int .i64 (m : Int), .string ⟨#[48, 49, 50, 51, 52, 53, 54, 55, 56, 57, 97, 98, 99, 100, 101, 102]⟩, .int .i64 1, .bool y, .int .i64 (i : Int), .slice A 18 c, .slice A2 1 c2]) (by simp [results, Tryd.results24, go_sem, k0, k1, k2, k3, k4, k5, k6]) rfl (by rw [HSG.out]; exact ⟨A, A2, c, c2, by rw [hvv], ⟨hS7, by rw [H1.out]; exact hc, hT7, by rw [H2.out]; exact hc2⟩, hby⟩)
  · skip
    rw [if_pos (by rfl)]
    go_simp
    refine (vmsg_any m ⟨#[48, 49, 50, 51, 52, 53, 54, 55, 56, 57, 97, 98, 99, 100, 101, 102]⟩ 1 y _ _ _ (by omega) (by omega) (by omega) (by omega) hbz M HM.out W1 he).mono ?_
    rintro r W2 ⟨rfl, hbm⟩
    have hX : (fun W : World => W.cell? ⟨g, 0, none⟩ = some (.int .i64 (m : Int)) ∧ W.cell? ⟨g, 1, none⟩ = some (.string ⟨#[48, 49, 50, 51, 52, 53, 54, 55, 56, 57, 97, 98, 99, 100, 101, 102]⟩) ∧ W.cell? ⟨g, 2, none⟩ = some (.int .i64 1) ∧ W.cell? ⟨g, 3, none⟩ = some (.bool y) ∧ W.cell? ⟨g, 4, none⟩ = some (.int .i64 0) ∧ W.cell? ⟨g, 5, none⟩ = some (.slice none 0 0) ∧ W.cell? ⟨g, 6, none⟩ = some (.slice none 0 0)) W2 := ⟨(hbm.cell (block_lt_of_cell hHeld.1)).trans hHeld.1, (hbm.cell (block_lt_of_cell hHeld.2.1)).trans hHeld.2.1, (hbm.cell (block_lt_of_cell hHeld.2.2.1)).trans hHeld.2.2.1, (hbm.cell (block_lt_of_cell hHeld.2.2.2.1)).trans hHeld.2.2.2.1, (hbm.cell (block_lt_of_cell hHeld.2.2.2.2.1)).trans hHeld.2.2.2.2.1, (hbm.cell (block_lt_of_cell hHeld.2.2.2.2.2.1)).trans hHeld.2.2.2.2.2.1, (hbm.cell (block_lt_of_cell hHeld.2.2.2.2.2.2)).trans hHeld.2.2.2.2.2.2⟩
    clear hHeld
    have hHeld := hX; clear hX
    replace hb := bnext hb hbm
    replace hL := hL.below hbm
    replace he := he.next hbm
    refine hK.out _ _ (Or.inr hHeld) ?_
    clear hK K
    try simp only [Act.put, List.getElem_toArray, List.getElem_cons_succ, List.getElem_cons_zero, List.setIfInBounds_toArray, List.set_cons_succ, List.set_cons_zero]
    refine wpAnyL_one (i := 0) (by decide +kernel) (by rfl) (fun K hK => ?_)
    rw [if_pos (by rfl)]
    go_simp
    have hxl := Below.news (Below.refl W2.heap.size W2) (.cells #[.string ⟨#[97]⟩, .string ⟨#[98]⟩, .string ⟨#[99]⟩] 9)
    have hcl : (W2.alloc (.cells #[.string ⟨#[97]⟩, .string ⟨#[98]⟩, .string ⟨#[99]⟩] 9)).cell? ⟨W2.heap.size, m, none⟩ = some (.string s) := by rw [cell_of_row _ _ _ _ _ (0, 0) (heap_alloc_new _ _)]; exact hml.out
    have hX : (fun W : World => W.cell? ⟨g, 0, none⟩ = some (.int .i64 (m : Int)) ∧ W.cell? ⟨g, 1, none⟩ = some (.string ⟨#[48, 49, 50, 51, 52, 53, 54, 55, 56, 57, 97, 98, 99, 100, 101, 102]⟩) ∧ W.cell? ⟨g, 2, none⟩ = some (.int .i64 1) ∧ W.cell? ⟨g, 3, none⟩ = some (.bool y) ∧ W.cell? ⟨g, 4, none⟩ = some (.int .i64 0) ∧ W.cell? ⟨g, 5, none⟩ = some (.slice none 0 0) ∧ W.cell? ⟨g, 6, none⟩ = some (.slice none 0 0)) (W2.alloc (.cells #[.string ⟨#[97]⟩, .string ⟨#[98]⟩, .string ⟨#[99]⟩] 9)) := ⟨(hxl.cell (block_lt_of_cell hHeld.1)).trans hHeld.1, (hxl.cell (block_lt_of_cell hHeld.2.1)).trans hHeld.2.1, (hxl.cell (block_lt_of_cell hHeld.2.2.1)).trans hHeld.2.2.1, (hxl.cell (block_lt_of_cell hHeld.2.2.2.1)).trans hHeld.2.2.2.1, (hxl.cell (block_lt_of_cell hHeld.2.2.2.2.1)).trans hHeld.2.2.2.2.1, (hxl.cell (block_lt_of_cell hHeld.2.2.2.2.2.1)).trans hHeld.2.2.2.2.2.1, (hxl.cell (block_lt_of_cell hHeld.2.2.2.2.2.2)).trans hHeld.2.2.2.2.2.2⟩
    clear hHeld
    have hHeld := hX; clear hX
    replace hb := bnext hb hxl
    replace hL := hL.below hxl
    replace he := he.next hxl
    refine hK.out _ _ (Or.inr hHeld) ?_
    clear hK K
    try simp only [Act.put, List.getElem_toArray, List.getElem_cons_succ, List.getElem_cons_zero, List.setIfInBounds_toArray, List.set_cons_succ, List.set_cons_zero]
    generalize hgl : W2.heap.size = gl at *
    generalize W2.alloc (.cells #[.string ⟨#[97]⟩, .string ⟨#[98]⟩, .string ⟨#[99]⟩] 9) = W4 at *
    refine wpAnyL_mono (S' := fun W : World => (W.cell? ⟨g, 0, none⟩ = some (.int .i64 (m : Int)) ∧ W.cell? ⟨g, 1, none⟩ = some (.string ⟨#[48, 49, 50, 51, 52, 53, 54, 55, 56, 57, 97, 98, 99, 100, 101, 102]⟩) ∧ W.cell? ⟨g, 2, none⟩ = some (.int .i64 1) ∧ W.cell? ⟨g, 3, none⟩ = some (.bool y) ∧ W.cell? ⟨g, 4, none⟩ = some (.int .i64 0) ∧ W.cell? ⟨g, 5, none⟩ = some (.slice none 0 0) ∧ W.cell? ⟨g, 6, none⟩ = some (.slice none 0 0)) ∧ W.cell? ⟨gl, m, none⟩ = some (.string s)) (fun _ h => h.1) _ _ _ _ ?_
    have hHeld2 := And.intro hHeld hcl
    refine wpAnyL_take (i := 2) (f0 := 14) (v := ?_) rfl (by decide +kernel) (by decide +kernel) (by decide +kernel) (by decide +kernel) (by decide +kernel) (fun _ _ _ h => h) (Or.inl ⟨by rfl, ?_⟩) hHeld2 ?_
    rotate_left
    · intro wS hS; obtain ⟨⟨hS1, hS2, hS3, hS4, hS5, hS6, hS7⟩, hS8⟩ := hS; go_simp; (try with_reducible rfl)
    simp only [Act.put, List.getElem_toArray, List.getElem_cons_succ, List.getElem_cons_zero, List.setIfInBounds_toArray, List.set_cons_succ, List.set_cons_zero]
    refine wpAnyL_take (i := 3) (f0 := 14) (v := ?_) rfl (by decide +kernel) (by decide +kernel) (by decide +kernel) (by decide +kernel) (by decide +kernel) (fun _ _ _ h => h) (Or.inl ⟨by rfl, ?_⟩) hHeld2 ?_
    rotate_left
    · intro wS hS; obtain ⟨⟨hS1, hS2, hS3, hS4, hS5, hS6, hS7⟩, hS8⟩ := hS; go_simp; (try with_reducible rfl)
    simp only [Act.put, List.getElem_toArray, List.getElem_cons_succ, List.getElem_cons_zero, List.setIfInBounds_toArray, List.set_cons_succ, List.set_cons_zero]
    refine wpAnyL_one (i := 7) (by decide +kernel) (by rfl) (fun K hK => ?_)
    rw [if_pos (by rfl)]
    go_simp
    refine (sign_of s M 1 i 1 i rfl rfl hsz (by rw [hMz]; decide) (by decide) hi SG PT HG.out HP.out _ he).mono ?_
    rintro r W5 ⟨A, c, A2, c2, rfl, hc, hc2, hS, hS2, hbs⟩
    have hX : (fun W : World => (W.cell? ⟨g, 0, none⟩ = some (.int .i64 (m : Int)) ∧ W.cell? ⟨g, 1, none⟩ = some (.string ⟨#[48, 49, 50, 51, 52, 53, 54, 55, 56, 57, 97, 98, 99, 100, 101, 102]⟩) ∧ W.cell? ⟨g, 2, none⟩ = some (.int .i64 1) ∧ W.cell? ⟨g, 3, none⟩ = some (.bool y) ∧ W.cell? ⟨g, 4, none⟩ = some (.int .i64 0) ∧ W.cell? ⟨g, 5, none⟩ = some (.slice none 0 0) ∧ W.cell? ⟨g, 6, none⟩ = some (.slice none 0 0)) ∧ W.cell? ⟨gl, m, none⟩ = some (.string s)) W5 := ⟨⟨(hbs.cell (block_lt_of_cell hHeld2.1.1)).trans hHeld2.1.1, (hbs.cell (block_lt_of_cell hHeld2.1.2.1)).trans hHeld2.1.2.1, (hbs.cell (block_lt_of_cell hHeld2.1.2.2.1)).trans hHeld2.1.2.2.1, (hbs.cell (block_lt_of_cell hHeld2.1.2.2.2.1)).trans hHeld2.1.2.2.2.1, (hbs.cell (block_lt_of_cell hHeld2.1.2.2.2.2.1)).trans hHeld2.1.2.2.2.2.1, (hbs.cell (block_lt_of_cell hHeld2.1.2.2.2.2.2.1)).trans hHeld2.1.2.2.2.2.2.1, (hbs.cell (block_lt_of_cell hHeld2.1.2.2.2.2.2.2)).trans hHeld2.1.2.2.2.2.2.2⟩, (hbs.cell (block_lt_of_cell hHeld2.2)).trans hHeld2.2⟩
    clear hHeld2
    have hHeld2 := hX; clear hX
    replace hb := bnext hb hbs
    replace hL := hL.below hbs
    refine hK.out _ _ (Or.inr hHeld2) ?_
    clear hK K
    try simp only [Act.put, List.getElem_toArray, List.getElem_cons_succ, List.getElem_cons_zero, List.setIfInBounds_toArray, List.set_cons_succ, List.set_cons_zero]
    refine wpAnyL_take (i := 8) (f0 := 14) (v := ?_) rfl (by decide +kernel) (by decide +kernel) (by decide +kernel) (by decide +kernel) (by decide +kernel) (fun _ _ _ h => h) (Or.inl ⟨by rfl, ?_⟩) hHeld2 ?_
    rotate_left
    · intro wS hS; obtain ⟨⟨hS1, hS2, hS3, hS4, hS5, hS6, hS7⟩, hS8⟩ := hS; go_simp; (try with_reducible rfl)
    simp only [Act.put, List.getElem_toArray, List.getElem_cons_succ, List.getElem_cons_zero, List.setIfInBounds_toArray, List.set_cons_succ, List.set_cons_zero]
    refine wpAnyL_take (i := 9) (f0 := 14) (v := ?_) rfl (by decide +kernel) (by decide +kernel) (by decide +kernel) (by decide +kernel) (by decide +kernel) (fun _ _ _ h => h) (Or.inl ⟨by rfl, ?_⟩) hHeld2 ?_
    rotate_left
    · intro wS hS; obtain ⟨⟨hS1, hS2, hS3, hS4, hS5, hS6, hS7⟩, hS8⟩ := hS; go_simp; (try with_reducible rfl)
    simp only [Act.put, List.getElem_toArray, List.getElem_cons_succ, List.getElem_cons_zero, List.setIfInBounds_toArray, List.set_cons_succ, List.set_cons_zero]
    refine wpAnyL_take0 (i := 10) (v := ?_) rfl (by decide +kernel) (by decide +kernel) (by decide +kernel) (by decide) (fun _ _ _ h => h) (Or.inl ⟨by rfl, ?_⟩) (Or.inr hHeld2) ?_
    rotate_left
    · intro wS _; go_simp; (try with_reducible rfl)
    simp only [Act.put, List.getElem_toArray, List.getElem_cons_succ, List.getElem_cons_zero, List.setIfInBounds_toArray, List.set_cons_succ, List.set_cons_zero]
    refine wpAnyL_take (i := 11) (f0 := 14) (v := ?_) rfl (by decide +kernel) (by decide +kernel) (by decide +kernel) (by decide +kernel) (by decide +kernel) (fun _ _ _ h => h) (Or.inl ⟨by rfl, ?_⟩) hHeld2 ?_
    rotate_left
    · intro wS hS; obtain ⟨⟨hS1, hS2, hS3, hS4, hS5, hS6, hS7⟩, hS8⟩ := hS; go_simp; (try with_reducible rfl)
    simp only [Act.put, List.getElem_toArray, List.getElem_cons_succ, List.getElem_cons_zero, List.setIfInBounds_toArray, List.set_cons_succ, List.set_cons_zero]
    have hrow := OwnV.row hL.head
    have fz4 := frozen_of_row _ g 4 _ _ hrow
    have fz5 := frozen_of_row _ g 5 _ _ hrow
    have fz6 := frozen_of_row _ g 6 _ _ hrow
    obtain ⟨⟨p0, p1, p2, p3, p4, p5, p6⟩, p7⟩ := hHeld2
    have hgB := (hL.head.lt (g := g) rfl).1
    have hLx := ((hL.set 4 (.int .i64 (i : Int))).set 5 (.slice A 18 c)).set 6 (.slice A2 1 c2)
    have hbx := ((hb.setCell (p := ⟨g, 4, none⟩) hgB (.int .i64 (i : Int))).setCell (p := ⟨g, 5, none⟩) hgB (.slice A 18 c)).setCell (p := ⟨g, 6, none⟩) hgB (.slice A2 1 c2)
    refine wpAnyL_one (i := 12) (by decide +kernel) (by rfl) (fun K hK => ?_)
    rw [if_pos (by rfl)]
    go_simp
    refine hK.out _ _ (Or.inl (by decide +kernel)) ?_
    clear hK K
    try simp only [Act.put, List.getElem_toArray, List.getElem_cons_succ, List.getElem_cons_zero, List.setIfInBounds_toArray, List.set_cons_succ, List.set_cons_zero]
    refine wpAnyL_done (by decide +kernel) ?_ _
    refine NoPanic.normal ?_
    have hLy0 := hLx.swap.set 0 (.int .i64 (m : Int))
    have hLy1 := hLy0.set 1 (.string ⟨#[48, 49, 50, 51, 52, 53, 54, 55, 56, 57, 97, 98, 99, 100, 101, 102]⟩)
    have hLy2 := hLy1.set 2 (.int .i64 1)
    have hLy3 := hLy2.set 3 (.bool y)
    have hLy4 := hLy3.set 4 (.int .i64 (i : Int))
    have hLy5 := hLy4.set 5 (.slice A 18 c)
    have hLy6 := hLy5.set 6 (.slice A2 1 c2)
    have hby := (((((((hbx.setCell (p := ⟨w.heap.size, 0, none⟩) (Nat.le_refl _) (.int .i64 (m : Int))).setCell (p := ⟨w.heap.size, 1, none⟩) (Nat.le_refl _) (.string ⟨#[48, 49, 50, 51, 52, 53, 54, 55, 56, 57, 97, 98, 99, 100, 101, 102]⟩)).setCell (p := ⟨w.heap.size, 2, none⟩) (Nat.le_refl _) (.int .i64 1)).setCell (p := ⟨w.heap.size, 3, none⟩) (Nat.le_refl _) (.bool y)).setCell (p := ⟨w.heap.size, 4, none⟩) (Nat.le_refl _) (.int .i64 (i : Int))).setCell (p := ⟨w.heap.size, 5, none⟩) (Nat.le_refl _) (.slice A 18 c)).setCell (p := ⟨w.heap.size, 6, none⟩) (Nat.le_refl _) (.slice A2 1 c2))
    have hS6 := ((hS.setOff (hS.off p4 (fun _ _ => nofun)) (.int .i64 (i : Int))).setOff (hS.off p5 (fun _ _ => nofun)) (.slice A 18 c)).setOff (hS.off p6 (fun _ _ => nofun)) (.slice A2 1 c2)
    have hT6 := ((hS2.setOff (hS2.off p4 (fun _ _ => nofun)) (.int .i64 (i : Int))).setOff (hS2.off p5 (fun _ _ => nofun)) (.slice A 18 c)).setOff (hS2.off p6 (fun _ _ => nofun)) (.slice A2 1 c2)
    obtain ⟨k0, k1, k2, k3, k4, k5, k6⟩ := cells7 (OwnV.row hLy6.head)
    have hk := hide (And.intro k0 (And.intro k1 (And.intro k2 (And.intro k3 (And.intro k4 (And.intro k5 k6))))))
    clear k0 k1 k2 k3 k4 k5 k6 hLy0 hLy1 hLy2 hLy3 hLy4 hLy5 hLy6
    obtain ⟨q0, q1, q2, q3, q4, q5, q6⟩ := cells7 (OwnV.row hLx.head)
    have hrz := OwnV.row hLx.swap.head
    obtain ⟨z0, z1, z2, z3, z4, z5, z6⟩ := cells7 hrz
    have y0 := frozen_of_row _ w.heap.size 0 _ _ hrz
    have y1 := frozen_of_row _ w.heap.size 1 _ _ hrz
    have y2 := frozen_of_row _ w.heap.size 2 _ _ hrz
    have y3 := frozen_of_row _ w.heap.size 3 _ _ hrz
    have y4 := frozen_of_row _ w.heap.size 4 _ _ hrz
    have y5 := frozen_of_row _ w.heap.size 5 _ _ hrz
    have y6 := frozen_of_row _ w.heap.size 6 _ _ hrz
    have hS7 := (((((((hS6.setOff (hS6.off z0 (fun _ _ => nofun)) (.int .i64 (m : Int))).setOff (hS6.off z1 hn1) (.string ⟨#[48, 49, 50, 51, 52, 53, 54, 55, 56, 57, 97, 98, 99, 100, 101, 102]⟩)).setOff (hS6.off z2 (fun _ _ => nofun)) (.int .i64 1)).setOff (hS6.off z3 (fun _ _ => nofun)) (.bool y)).setOff (hS6.off z4 (fun _ _ => nofun)) (.int .i64 (i : Int))).setOff (hS6.off z5 (fun _ _ => nofun)) (.slice A 18 c)).setOff (hS6.off z6 (fun _ _ => nofun)) (.slice A2 1 c2))
    have hT7 := (((((((hT6.setOff (hT6.off z0 (fun _ _ => nofun)) (.int .i64 (m : Int))).setOff (hT6.off z1 hn2) (.string ⟨#[48, 49, 50, 51, 52, 53, 54, 55, 56, 57, 97, 98, 99, 100, 101, 102]⟩)).setOff (hT6.off z2 (fun _ _ => nofun)) (.int .i64 1)).setOff (hT6.off z3 (fun _ _ => nofun)) (.bool y)).setOff (hT6.off z4 (fun _ _ => nofun)) (.int .i64 (i : Int))).setOff (hT6.off z5 (fun _ _ => nofun)) (.slice A 18 c)).setOff (hT6.off z6 (fun _ _ => nofun)) (.slice A2 1 c2))
    clear p0 p1 p2 p3 p4 p5 p6 p7 fz4 fz5 fz6 hrow hrz hS6 hT6
    have hsz6 : (((W5.setCell ⟨g, 4, none⟩ (.int .i64 (i : Int))).setCell ⟨g, 5, none⟩ (.slice A 18 c)).setCell ⟨g, 6, none⟩ (.slice A2 1 c2)).heap.size = W5.heap.size := by simp
    generalize ((W5.setCell ⟨g, 4, none⟩ (.int .i64 (i : Int))).setCell ⟨g, 5, none⟩ (.slice A 18 c)).setCell ⟨g, 6, none⟩ (.slice A2 1 c2) = W6 at *
    rw [← hsz6] at hS7 hT7
    clear hS hS2 hLx hL hb hbx
    go_wp2
    have hsz7 : (((((((W6.setCell ⟨w.heap.size, 0, none⟩ (.int .i64 (m : Int))).setCell ⟨w.heap.size, 1, none⟩ (.string ⟨#[48, 49, 50, 51, 52, 53, 54, 55, 56, 57, 97, 98, 99, 100, 101, 102]⟩)).setCell ⟨w.heap.size, 2, none⟩ (.int .i64 1)).setCell ⟨w.heap.size, 3, none⟩ (.bool y)).setCell ⟨w.heap.size, 4, none⟩ (.int .i64 (i : Int))).setCell ⟨w.heap.size, 5, none⟩ (.slice A 18 c)).setCell ⟨w.heap.size, 6, none⟩ (.slice A2 1 c2)).heap.size = W6.heap.size := by simp
    rw [← hsz7] at hS7 hT7
    generalize (((((((W6.setCell ⟨w.heap.size, 0, none⟩ (.int .i64 (m : Int))).setCell ⟨w.heap.size, 1, none⟩ (.string ⟨#[48, 49, 50, 51, 52, 53, 54, 55, 56, 57, 97, 98, 99, 100, 101, 102]⟩)).setCell ⟨w.heap.size, 2, none⟩ (.int .i64 1)).setCell ⟨w.heap.size, 3, none⟩ (.bool y)).setCell ⟨w.heap.size, 4, none⟩ (.int .i64 (i : Int))).setCell ⟨w.heap.size, 5, none⟩ (.slice A 18 c)).setCell ⟨w.heap.size, 6, none⟩ (.slice A2 1 c2)) = F at *
    obtain ⟨k0, k1, k2, k3, k4, k5, k6⟩ := hk.out
    clear hk
    have hvv : voteV ⟨m, ⟨#[48, 49, 50, 51, 52, 53, 54, 55, 56, 57, 97, 98, 99, 100, 101, 102]⟩, 1, y, i, SG, PT⟩ A A2 c c2 = #[.int .i64 (m : Int), .string ⟨#[48, 49, 50, 51, 52, 53, 54, 55, 56, 57, 97, 98, 99, 100, 101, 102]⟩, .int .i64 1, .bool y, .int .i64 (i : Int), .slice A 18 c, .slice A2 1 c2] := by unfold voteV; rw [H1.out, H2.out]
    exact bodyPost_ret (v := .agg #[.int .i64 (m : Int), .string ⟨#[48, 49, 50, 51, 52, 53, 54, 55, 56, 57, 97, 98, 99, 100, 101, 102]⟩, .int .i64 1, .bool y, .int .i64 (i : Int), .slice A 18 c, .slice A2 1 c2]) (by simp [results, Tryd.results24, go_sem, k0, k1, k2, k3, k4, k5, k6]) rfl (by rw [HSG.out]; exact ⟨A, A2, c, c2, by rw [hvv], ⟨hS7, by rw [H1.out]; exact hc, hT7, by rw [H2.out]; exact hc2⟩, hby⟩)
end Go.Proofs.YtgncahnkkpjdpaaDoor
/- The roll of the examples of pandectlaw39. No conditions but those that each theorem states. -/
namespace Go.Proofs.YtgncahnkkpjdpaaDoor
open Go Go.RowKit Go.Sort Go.Maps
/-- The keys of the examples. -/
def xkeys : List ByteArray := xsecs.map fun s => Dg.publicB s 1
theorem xkeys_get (k : Nat) (s : ByteArray) (h : xsecs[k]? = some s) : xkeys[k]? = some (Dg.publicB s 1) := by unfold xkeys; rw [List.getElem?_map, h]; rfl
theorem xkeys_len : xkeys.length = 3 := rfl
theorem xkeys_take (k : Nat) (P : ByteArray) (h : xkeys[k]? = some P) : xkeys.take (k + 1) = xkeys.take k ++ [P] := by
  obtain ⟨h1, h2⟩ := List.getElem?_eq_some_iff.1 h
  rw [List.take_succ_eq_append_getElem h1, h2]
theorem xsecs_size (k : Nat) (s : ByteArray) (h : xsecs[k]? = some s) : s.size ≤ 1073741824 := by
  have := List.mem_of_getElem? h
  simp only [xsecs, List.mem_cons, List.not_mem_nil, or_false] at this
  rcases this with rfl | rfl | rfl <;> decide
theorem xsecs_at (k : Nat) (hk : k < 3) : ∃ s, xsecs[k]? = some s := ⟨xsecs[k]'hk, List.getElem?_eq_getElem _⟩
/-- What roll hands back. -/
def RollOut (w : World) (r : Ending) (w' : World) : Prop :=
  ∃ A e, r = .returned (.agg #[.int .i64 1, .slice A 3 e, .int .i64 2, .int .i64 1, .int .i64 2]) ∧ Strs w' w'.heap.size A xkeys ∧ 3 ≤ e ∧ Below w.heap.size w w'
set_option maxRecDepth 100000 in
set_option maxHeartbeats 4000000 in
theorem roll_any (w : World) (he : Env w) : Calls Tryd.prog 22 #[] w (RollOut w) := by
  have hL0 := OwnL.lit (OwnL.lit (OwnL.lit (OwnL.nil w w.heap.size) (Nat.le_refl _) #[.int .i64 0, .slice none 0 0, .int .i64 0, .int .i64 0, .int .i64 0] 24 5 rfl (by unfold maxLen; omega)) (by simp) #[.int .i64 1, .slice none 0 0, .int .i64 2, .int .i64 1, .int .i64 2] 24 5 rfl (by unfold maxLen; omega)) (by simp; omega) #[.string ⟨#[97]⟩, .string ⟨#[98]⟩, .string ⟨#[99]⟩] 9 3 rfl (by unfold maxLen; omega)
  have hb0 := ((((Below.refl w.heap.size w).alloc (Nat.le_refl _) (.cells #[.int .i64 0, .slice none 0 0, .int .i64 0, .int .i64 0, .int .i64 0] 24)).alloc (by simp) (.cells #[.int .i64 1, .slice none 0 0, .int .i64 2, .int .i64 1, .int .i64 2] 24)).alloc (by simp; omega) (.cells #[.string ⟨#[97]⟩, .string ⟨#[98]⟩, .string ⟨#[99]⟩] 9))
  have hg2 : (w.alloc (.cells #[.int .i64 0, .slice none 0 0, .int .i64 0, .int .i64 0, .int .i64 0] 24)).heap.size = w.heap.size + 1 := by simp
  have hg3 : ((w.alloc (.cells #[.int .i64 0, .slice none 0 0, .int .i64 0, .int .i64 0, .int .i64 0] 24)).alloc (.cells #[.int .i64 1, .slice none 0 0, .int .i64 2, .int .i64 1, .int .i64 2] 24)).heap.size = w.heap.size + 1 + 1 := by simp
  rw [hg2, hg3] at hL0
  have hL : OwnL (((w.alloc (.cells #[.int .i64 0, .slice none 0 0, .int .i64 0, .int .i64 0, .int .i64 0] 24)).alloc (.cells #[.int .i64 1, .slice none 0 0, .int .i64 2, .int .i64 1, .int .i64 2] 24)).alloc (.cells #[.string ⟨#[97]⟩, .string ⟨#[98]⟩, .string ⟨#[99]⟩] 9)) w.heap.size [sR (.slice none 0 0) [], (.slice (some ⟨w.heap.size + 1, 0, none⟩) 5 5, 24, [.int .i64 1, .slice none 0 0, .int .i64 2, .int .i64 1, .int .i64 2]), sR (.slice (some ⟨w.heap.size + 1 + 1, 0, none⟩) 3 3) xsecs, (.slice (some ⟨w.heap.size, 0, none⟩) 5 5, 24, [.int .i64 0, .slice none 0 0, .int .i64 0, .int .i64 0, .int .i64 0])] := hL0.swap.emptyS
  clear hL0 hg2 hg3
  go_enter Tryd.func22, Tryd.ntmps22
  go_wp2_with fail
  generalize ((w.alloc (.cells #[.int .i64 0, .slice none 0 0, .int .i64 0, .int .i64 0, .int .i64 0] 24)).alloc (.cells #[.int .i64 1, .slice none 0 0, .int .i64 2, .int .i64 1, .int .i64 2] 24)).alloc (.cells #[.string ⟨#[97]⟩, .string ⟨#[98]⟩, .string ⟨#[99]⟩] 9) = W0 at *
  generalize w.heap.size + 1 + 1 = gl at *
  generalize w.heap.size + 1 = g at *
  go_loopw [3, 4, 5] (fun iv kv ev wr => ∃ (k : Nat) (v : Value), k ≤ 3 ∧ iv = .int .i64 k ∧ OwnL wr w.heap.size [sR v (xkeys.take k), (.slice (some ⟨g, 0, none⟩) 5 5, 24, [.int .i64 1, v, .int .i64 2, .int .i64 1, .int .i64 2]), sR (.slice (some ⟨gl, 0, none⟩) 3 3) xsecs, (.slice (some ⟨w.heap.size, 0, none⟩) 5 5, 24, [.int .i64 0, .slice none 0 0, .int .i64 0, .int .i64 0, .int .i64 0])] ∧ Below w.heap.size w wr) (fun iv _ _ _ => 3 - (intOf iv).toNat)
  case atStart => exact ⟨0, _, by omega, rfl, hL, hb0⟩
  case round =>
    obtain ⟨k, v, hk, rfl, hLr, hbr⟩ := hrel
    by_cases hlt : k < 3
    · have hk0 : (0 : Int) ≤ (k : Int) := by omega
      have hkn : (k : Int) < 3 := by omega
      obtain ⟨s, hs⟩ := xsecs_at k hlt
      have hsz := xsecs_size k s hs
      have hcl := (hLr.rot3.headS).getc k _ hs
      have hkt := hide (xkeys_take k _ (xkeys_get k s hs))
      have hkl : (xkeys.take k).length = k := by rw [List.length_take, xkeys_len]; omega
      obtain ⟨P, hP⟩ : ∃ P, Dg.publicB s 1 = P := ⟨_, rfl⟩
      have hlen : (xkeys.take k ++ [P]).length = k + 1 := by rw [List.length_append, hkl]; rfl
      rw [hP] at hkt
      have HP := hide hP; clear hP hs
      go_wp2_with fail
      refine (public_of s 1 1 rfl hsz (by decide) P HP.out _ (he.next hbr)).mono ?_
      rintro r w1 ⟨rfl, hb1⟩
      have hL1 := hLr.below hb1
      have hb1' := bnext hbr hb1
      have p1 : w1.cell? ⟨g, 1, none⟩ = some v := by rw [cell_of_row _ _ _ _ _ (0, 0) (OwnV.row hL1.swap.head)]; rfl
      clear hcl hLr
      have hs1 := hb1'.size
      go_wp2_with (at_builtin; refine step_ll rfl (.tmp 23) (.tmp 25) rfl w.heap.size _ (xkeys.take k) [P] _ _ rfl rfl hL1 1 1 rfl rfl (by omega) hs1 ?_; intro v2 w2 hL2 hb2; obtain ⟨A2, n2, hv2, _, _⟩ := OwnL.strsM hL2; rw [hlen] at hv2; subst hv2; have p2 : w2.cell? ⟨g, 1, none⟩ = some v := (by rw [cell_of_row _ _ _ _ _ (0, 0) (OwnV.row hL2.swap.head)]; rfl); have fz := frozen_of_row _ g 1 _ _ (OwnV.row hL2.swap.head); have hgB := (hL2.swap.head.lt (g := g) rfl).1)
      have hL3 := (hL2.swap.set 1 (.slice A2 (k + 1) n2)).swap
      have hb3 := (hb1'.trans hb2).setCell (p := ⟨g, 1, none⟩) hgB (.slice A2 (k + 1) n2)
      clear p1 p2 fz
      go_roundw
      case rel => exact ⟨k + 1, _, by omega, by go_num, by rw [hkt.out]; exact hL3, hb3⟩
      case measure => simp [intOf]; omega
    · obtain rfl : k = 3 := by omega
      rw [show ((3 : Nat) : Int) = (3 : Int) from rfl]
      have hrow := OwnV.row hLr.swap.head
      have c0 : wr.cell? ⟨g, 0, none⟩ = some (.int .i64 1) := by rw [cell_of_row _ _ _ _ _ (0, 0) hrow]; rfl
      have c1 : wr.cell? ⟨g, 1, none⟩ = some v := by rw [cell_of_row _ _ _ _ _ (0, 0) hrow]; rfl
      have c2 : wr.cell? ⟨g, 2, none⟩ = some (.int .i64 2) := by rw [cell_of_row _ _ _ _ _ (0, 0) hrow]; rfl
      have c3 : wr.cell? ⟨g, 3, none⟩ = some (.int .i64 1) := by rw [cell_of_row _ _ _ _ _ (0, 0) hrow]; rfl
      have c4 : wr.cell? ⟨g, 4, none⟩ = some (.int .i64 2) := by rw [cell_of_row _ _ _ _ _ (0, 0) hrow]; rfl
      have hzr := OwnV.row (hLr.tail.tail.tail).head
      have z0 : wr.cell? ⟨w.heap.size, 0, none⟩ = some (.int .i64 0) := by rw [cell_of_row _ _ _ _ _ (0, 0) hzr]; rfl
      have z1 : wr.cell? ⟨w.heap.size, 1, none⟩ = some (.slice none 0 0) := by rw [cell_of_row _ _ _ _ _ (0, 0) hzr]; rfl
      have z2 : wr.cell? ⟨w.heap.size, 2, none⟩ = some (.int .i64 0) := by rw [cell_of_row _ _ _ _ _ (0, 0) hzr]; rfl
      have z3 : wr.cell? ⟨w.heap.size, 3, none⟩ = some (.int .i64 0) := by rw [cell_of_row _ _ _ _ _ (0, 0) hzr]; rfl
      have z4 : wr.cell? ⟨w.heap.size, 4, none⟩ = some (.int .i64 0) := by rw [cell_of_row _ _ _ _ _ (0, 0) hzr]; rfl
      have y0 := frozen_of_row _ w.heap.size 0 _ _ hzr
      have y1 := frozen_of_row _ w.heap.size 1 _ _ hzr
      have y2 := frozen_of_row _ w.heap.size 2 _ _ hzr
      have y3 := frozen_of_row _ w.heap.size 3 _ _ hzr
      have y4 := frozen_of_row _ w.heap.size 4 _ _ hzr
      obtain ⟨A, e, hv, hle, hS⟩ := OwnL.strsM hLr
      have h3 : xkeys.take 3 = xkeys := rfl
      rw [h3] at hv hle hS hLr
      rw [xkeys_len] at hv hle
      subst hv
      have hLy0 := (hLr.perm (List.perm_append_comm (l₁ := [_, _, _]) (l₂ := [_]))).set 0 (.int .i64 1)
      have hLy1 := hLy0.set 1 (.slice A 3 e)
      have hLy2 := hLy1.set 2 (.int .i64 2)
      have hLy3 := hLy2.set 3 (.int .i64 1)
      have hLy4 := hLy3.set 4 (.int .i64 2)
      have hby := (((((hbr.setCell (p := ⟨w.heap.size, 0, none⟩) (Nat.le_refl _) (.int .i64 1)).setCell (p := ⟨w.heap.size, 1, none⟩) (Nat.le_refl _) (.slice A 3 e)).setCell (p := ⟨w.heap.size, 2, none⟩) (Nat.le_refl _) (.int .i64 2)).setCell (p := ⟨w.heap.size, 3, none⟩) (Nat.le_refl _) (.int .i64 1)).setCell (p := ⟨w.heap.size, 4, none⟩) (Nat.le_refl _) (.int .i64 2))
      have hF := OwnV.row hLy4.head
      have k0 : (((((wr.setCell ⟨w.heap.size, 0, none⟩ (.int .i64 1)).setCell ⟨w.heap.size, 1, none⟩ (.slice A 3 e)).setCell ⟨w.heap.size, 2, none⟩ (.int .i64 2)).setCell ⟨w.heap.size, 3, none⟩ (.int .i64 1)).setCell ⟨w.heap.size, 4, none⟩ (.int .i64 2)).cell? ⟨w.heap.size, 0, none⟩ = some (.int .i64 1) := by rw [cell_of_row _ _ _ _ _ (0, 0) hF]; rfl
      have k1 : (((((wr.setCell ⟨w.heap.size, 0, none⟩ (.int .i64 1)).setCell ⟨w.heap.size, 1, none⟩ (.slice A 3 e)).setCell ⟨w.heap.size, 2, none⟩ (.int .i64 2)).setCell ⟨w.heap.size, 3, none⟩ (.int .i64 1)).setCell ⟨w.heap.size, 4, none⟩ (.int .i64 2)).cell? ⟨w.heap.size, 1, none⟩ = some (.slice A 3 e) := by rw [cell_of_row _ _ _ _ _ (0, 0) hF]; rfl
      have k2 : (((((wr.setCell ⟨w.heap.size, 0, none⟩ (.int .i64 1)).setCell ⟨w.heap.size, 1, none⟩ (.slice A 3 e)).setCell ⟨w.heap.size, 2, none⟩ (.int .i64 2)).setCell ⟨w.heap.size, 3, none⟩ (.int .i64 1)).setCell ⟨w.heap.size, 4, none⟩ (.int .i64 2)).cell? ⟨w.heap.size, 2, none⟩ = some (.int .i64 2) := by rw [cell_of_row _ _ _ _ _ (0, 0) hF]; rfl
      have k3 : (((((wr.setCell ⟨w.heap.size, 0, none⟩ (.int .i64 1)).setCell ⟨w.heap.size, 1, none⟩ (.slice A 3 e)).setCell ⟨w.heap.size, 2, none⟩ (.int .i64 2)).setCell ⟨w.heap.size, 3, none⟩ (.int .i64 1)).setCell ⟨w.heap.size, 4, none⟩ (.int .i64 2)).cell? ⟨w.heap.size, 3, none⟩ = some (.int .i64 1) := by rw [cell_of_row _ _ _ _ _ (0, 0) hF]; rfl
      have k4 : (((((wr.setCell ⟨w.heap.size, 0, none⟩ (.int .i64 1)).setCell ⟨w.heap.size, 1, none⟩ (.slice A 3 e)).setCell ⟨w.heap.size, 2, none⟩ (.int .i64 2)).setCell ⟨w.heap.size, 3, none⟩ (.int .i64 1)).setCell ⟨w.heap.size, 4, none⟩ (.int .i64 2)).cell? ⟨w.heap.size, 4, none⟩ = some (.int .i64 2) := by rw [cell_of_row _ _ _ _ _ (0, 0) hF]; rfl
      have hS4 := OwnL.strsM hLy4.tail
      obtain ⟨A4, e4, hv4, hle4, hS4⟩ := hS4
      rw [xkeys_len] at hv4 hle4
      injection hv4 with a1 _ a2
      subst a1 a2
      have hk := hide (And.intro k0 (And.intro k1 (And.intro k2 (And.intro k3 k4))))
      clear hF k0 k1 k2 k3 k4 hLy0 hLy1 hLy2 hLy3 hLy4 hrow hzr hS hLr hbr
      go_wp2
      generalize (((((wr.setCell ⟨w.heap.size, 0, none⟩ (.int .i64 1)).setCell ⟨w.heap.size, 1, none⟩ (.slice A 3 e)).setCell ⟨w.heap.size, 2, none⟩ (.int .i64 2)).setCell ⟨w.heap.size, 3, none⟩ (.int .i64 1)).setCell ⟨w.heap.size, 4, none⟩ (.int .i64 2)) = F at *
      obtain ⟨k0, k1, k2, k3, k4⟩ := hk.out
      clear hk
      exact bodyPost_ret (v := .agg #[.int .i64 1, .slice A 3 e, .int .i64 2, .int .i64 1, .int .i64 2]) (by simp [results, Tryd.results22, go_sem, k0, k1, k2, k3, k4]) rfl ⟨A, e, rfl, hS4, hle, hby⟩
end Go.Proofs.YtgncahnkkpjdpaaDoor
/- What counting comes to, in plain Lean: which votes count, their members, the others in reverse order, one vote more. No program in sight. -/
namespace Go.Proofs.YtgncahnkkpjdpaaDoor.Dg
open Go
def okP (r : Rl) (bill : ByteArray) (l : List Vt) (k : Nat) : Bool := properB r && (match l[k]? with | none => false | some v => okB r bill (cntTo r bill l k) v)
def cntP (r : Rl) (bill : ByteArray) (l : List Vt) (k : Nat) : St := if properB r then cntTo r bill l k else ⟨[], 0, 0, List.range k⟩
theorem cnt_P (r : Rl) (bill : ByteArray) (l : List Vt) : cnt r bill l = cntP r bill l l.length := rfl
theorem cntP_zero (r : Rl) (bill : ByteArray) (l : List Vt) : cntP r bill l 0 = St.none := by unfold cntP; split <;> rfl
theorem cntP_succ (r : Rl) (bill : ByteArray) (l : List Vt) (k : Nat) (hk : k < l.length) : cntP r bill l (k + 1) = if okP r bill l k then ⟨l[k].mem :: (cntP r bill l k).seen, if l[k].yes then (cntP r bill l k).yes + 1 else (cntP r bill l k).yes, if l[k].yes then (cntP r bill l k).no else (cntP r bill l k).no + 1, (cntP r bill l k).bad⟩ else ⟨(cntP r bill l k).seen, (cntP r bill l k).yes, (cntP r bill l k).no, (cntP r bill l k).bad ++ [k]⟩ := by
  unfold okP cntP
  cases hp : properB r with
  | false => simp [List.range_succ]
  | true => rw [if_pos rfl, if_pos rfl, cntTo_succ _ _ _ _ hk, List.getElem?_eq_getElem hk, Bool.true_and]; rfl
theorem okP_spec {r : Rl} {bill : ByteArray} {l : List Vt} {k : Nat} (hk : k < l.length) (h : okP r bill l k = true) : properB r = true ∧ l[k].mem ∉ (cntP r bill l k).seen ∧ validB r bill l[k] = true := by
  unfold okP at h
  rw [Bool.and_eq_true, List.getElem?_eq_getElem hk] at h
  obtain ⟨hp, h⟩ := h
  have h : okB r bill (cntTo r bill l k) l[k] = true := h
  unfold okB at h
  rw [Bool.and_eq_true] at h
  refine ⟨hp, ?_, h.2⟩
  unfold cntP
  rw [if_pos hp]
  have := h.1
  simpa using this
theorem validB_spec {r : Rl} {bill : ByteArray} {v : Vt} (h : validB r bill v = true) : v.cham = r.cham ∧ v.bill = bill ∧ 0 ≤ v.mem ∧ v.mem < r.keys.length ∧ verifyB (r.keys.getD v.mem.toNat ⟨#[]⟩) v.msg v.idx v.sig v.path = true := by
  unfold validB at h
  simp only [Bool.and_eq_true, decide_eq_true_eq] at h
  exact h
theorem cntP_sum (r : Rl) (bill : ByteArray) (l : List Vt) (k : Nat) (hk : k ≤ l.length) : (cntP r bill l k).yes + (cntP r bill l k).no + (cntP r bill l k).bad.length = k := by
  unfold cntP
  split
  · exact cntTo_sum r bill l k hk
  · simp
theorem bad_filter (r : Rl) (bill : ByteArray) (l : List Vt) (k : Nat) (hk : k ≤ l.length) : (cntP r bill l k).bad = (List.range k).filter fun i => !okP r bill l i := by
  induction k with
  | zero => rw [cntP_zero]; rfl
  | succ k ih =>
    rw [cntP_succ _ _ _ _ (by omega), List.range_succ, List.filter_append, ← ih (by omega)]
    cases hok : okP r bill l k <;> simp [hok]
theorem bad_lt (r : Rl) (bill : ByteArray) (l : List Vt) (k : Nat) (hk : k ≤ l.length) : ∀ i ∈ (cntP r bill l k).bad, i < k := fun i hi => by
  rw [bad_filter _ _ _ _ hk] at hi
  exact List.mem_range.1 (List.mem_filter.1 hi).1
theorem bad_split (r : Rl) (bill : ByteArray) (l : List Vt) (k n : Nat) (hkn : k ≤ n) (hn : n ≤ l.length) : ∃ R, (cntP r bill l n).bad = (cntP r bill l k).bad ++ R ∧ ∀ i ∈ R, k ≤ i := by
  induction n with
  | zero => obtain rfl : k = 0 := by omega
            exact ⟨[], by simp, by simp⟩
  | succ n ih =>
    by_cases hk : k = n + 1
    · subst hk; exact ⟨[], by simp, by simp⟩
    · obtain ⟨R, h1, h2⟩ := ih (by omega) (by omega)
      rw [cntP_succ _ _ _ _ (by omega)]
      split
      · exact ⟨R, h1, h2⟩
      · refine ⟨R ++ [n], by simp only; rw [h1, List.append_assoc], fun i hi => ?_⟩
        rcases List.mem_append.1 hi with h | h
        · exact h2 i h
        · obtain rfl : i = n := by simpa using h
          omega
/-- Where a vote does not count, its number stands next among those that do not. -/
theorem bad_at (r : Rl) (bill : ByteArray) (l : List Vt) (k : Nat) (hk : k < l.length) (h : okP r bill l k = false) : (cnt r bill l).bad[(cntP r bill l k).bad.length]? = some k ∧ (cntP r bill l (k + 1)).bad = (cntP r bill l k).bad ++ [k] := by
  obtain ⟨R, h1, _⟩ := bad_split r bill l (k + 1) l.length (by omega) (Nat.le_refl _)
  have h2 : (cntP r bill l (k + 1)).bad = (cntP r bill l k).bad ++ [k] := by rw [cntP_succ _ _ _ _ hk, h]; rfl
  refine ⟨?_, h2⟩
  rw [cnt_P, h1, h2, List.append_assoc, List.getElem?_append_right (Nat.le_refl _), Nat.sub_self]
  rfl
theorem bad_not (r : Rl) (bill : ByteArray) (l : List Vt) (k : Nat) (h : okP r bill l k = true) : ∀ j : Nat, (cnt r bill l).bad[j]? ≠ some k := fun j hj => by
  have h1 := List.mem_of_getElem? hj
  rw [cnt_P, bad_filter _ _ _ _ (Nat.le_refl _)] at h1
  have := (List.mem_filter.1 h1).2
  rw [h] at this
  cases this
theorem cntP_ok (r : Rl) (bill : ByteArray) (l : List Vt) (k : Nat) (hk : k < l.length) (h : okP r bill l k = true) : cntP r bill l (k + 1) = ⟨l[k].mem :: (cntP r bill l k).seen, if l[k].yes then (cntP r bill l k).yes + 1 else (cntP r bill l k).yes, if l[k].yes then (cntP r bill l k).no else (cntP r bill l k).no + 1, (cntP r bill l k).bad⟩ := by
  rw [cntP_succ _ _ _ _ hk, h]; rfl
theorem cntP_bad (r : Rl) (bill : ByteArray) (l : List Vt) (k : Nat) (hk : k < l.length) (h : okP r bill l k = false) : cntP r bill l (k + 1) = ⟨(cntP r bill l k).seen, (cntP r bill l k).yes, (cntP r bill l k).no, (cntP r bill l k).bad ++ [k]⟩ := by
  rw [cntP_succ _ _ _ _ hk, h]; rfl
theorem nodup_le : ∀ (n : Nat) (L : List Int), L.Nodup → (∀ m ∈ L, 0 ≤ m ∧ m < n) → L.length ≤ n
  | 0, L, _, h => by
    cases L with
    | nil => simp
    | cons a L => have := h a (List.mem_cons_self ..); omega
  | n + 1, L, hd, h => by
    have h1 := nodup_le n (L.erase (n : Int)) (hd.erase _) (fun m hm => by
      have h2 := h m (List.mem_of_mem_erase hm)
      have h3 : m ≠ (n : Int) := fun e => by
        subst e
        exact (List.Nodup.not_mem_erase hd) hm
      omega)
    have h2 : L.length ≤ (L.erase (n : Int)).length + 1 := by
      by_cases hm : (n : Int) ∈ L
      · rw [List.length_erase_of_mem hm]; omega
      · rw [List.erase_of_not_mem hm]; omega
    omega
theorem seen_spec (r : Rl) (bill : ByteArray) (l : List Vt) (k : Nat) (hk : k ≤ l.length) : (cntP r bill l k).seen.Nodup ∧ (∀ m ∈ (cntP r bill l k).seen, 0 ≤ m ∧ m < r.keys.length) ∧ (cntP r bill l k).seen.length = (cntP r bill l k).yes + (cntP r bill l k).no := by
  induction k with
  | zero => rw [cntP_zero]; exact ⟨List.nodup_nil, by simp [St.none], rfl⟩
  | succ k ih =>
    obtain ⟨h1, h2, h3⟩ := ih (by omega)
    cases hok : okP r bill l k with
    | false => rw [cntP_bad _ _ _ _ (by omega) hok]; exact ⟨h1, h2, h3⟩
    | true =>
      obtain ⟨_, h4, h5⟩ := okP_spec (by omega) hok
      obtain ⟨_, _, h6, h7, _⟩ := validB_spec h5
      rw [cntP_ok _ _ _ _ (by omega) hok]
      refine ⟨List.nodup_cons.2 ⟨h4, h1⟩, fun m hm => ?_, ?_⟩
      · rcases List.mem_cons.1 hm with rfl | h
        · exact ⟨h6, h7⟩
        · exact h2 m h
      · simp only [List.length_cons, h3]
        split <;> omega
theorem count_keys (r : Rl) (bill : ByteArray) (l : List Vt) : (cnt r bill l).yes + (cnt r bill l).no ≤ r.keys.length := by
  obtain ⟨h1, h2, h3⟩ := seen_spec r bill l l.length (Nat.le_refl _)
  rw [cnt_P, ← h3]
  exact nodup_le _ _ h1 h2
/-- The votes that count, among the first k. -/
def good (r : Rl) (bill : ByteArray) (l : List Vt) : Nat → List Vt
  | 0 => []
  | k + 1 => if okP r bill l k then (match l[k]? with | none => good r bill l k | some v => good r bill l k ++ [v]) else good r bill l k
theorem good_ok (r : Rl) (bill : ByteArray) (l : List Vt) (k : Nat) (hk : k < l.length) (h : okP r bill l k = true) : good r bill l (k + 1) = good r bill l k ++ [l[k]] := by rw [good, h, List.getElem?_eq_getElem hk]; rfl
theorem good_bad (r : Rl) (bill : ByteArray) (l : List Vt) (k : Nat) (h : okP r bill l k = false) : good r bill l (k + 1) = good r bill l k := by rw [good, h]; rfl
theorem good_spec (r : Rl) (bill : ByteArray) (l : List Vt) (k : Nat) (hk : k ≤ l.length) : (cntP r bill l k).seen = ((good r bill l k).map Vt.mem).reverse ∧ (cntP r bill l k).yes = (good r bill l k).countP Vt.yes ∧ (cntP r bill l k).no = (good r bill l k).countP (fun v => !v.yes) ∧ (∀ v ∈ good r bill l k, properB r = true ∧ validB r bill v = true) := by
  induction k with
  | zero => rw [cntP_zero]; exact ⟨rfl, rfl, rfl, by simp [good]⟩
  | succ k ih =>
    obtain ⟨h1, h2, h3, h4⟩ := ih (by omega)
    cases hok : okP r bill l k with
    | false => rw [cntP_bad _ _ _ _ (by omega) hok, good_bad _ _ _ _ hok]; exact ⟨h1, h2, h3, h4⟩
    | true =>
      obtain ⟨hp, _, h5⟩ := okP_spec (by omega) hok
      rw [cntP_ok _ _ _ _ (by omega) hok, good_ok _ _ _ _ (by omega) hok]
      refine ⟨?_, ?_, ?_, fun v hv => ?_⟩
      · rw [h1, List.map_append, List.reverse_append]; rfl
      · simp only [h2, List.countP_append, List.countP_singleton]
        cases l[k].yes <;> simp
      · simp only [h3, List.countP_append, List.countP_singleton]
        cases l[k].yes <;> simp
      · rcases List.mem_append.1 hv with h | h
        · exact h4 v h
        · obtain rfl : v = l[k] := by simpa using h
          exact ⟨hp, h5⟩
theorem good_mem (r : Rl) (bill : ByteArray) (l : List Vt) : ∀ (k : Nat) (v : Vt), v ∈ good r bill l k → v ∈ l
  | 0, v, h => by cases h
  | k + 1, v, h => by
    unfold good at h
    split at h
    · split at h
      · exact good_mem r bill l k v h
      · rename_i u hu
        rcases List.mem_append.1 h with h | h
        · exact good_mem r bill l k v h
        · obtain rfl := List.mem_singleton.1 h
          exact List.mem_of_getElem? hu
    · exact good_mem r bill l k v h
/-- Valid votes of different members all count. -/
theorem all_count (r : Rl) (bill : ByteArray) (B : List Vt) (hp : B ≠ [] → properB r = true) (hv : ∀ v ∈ B, validB r bill v = true) (hd : (B.map Vt.mem).Nodup) : ∀ k ≤ B.length, (cntP r bill B k).bad = [] ∧ good r bill B k = B.take k
  | 0, _ => ⟨by rw [cntP_zero]; rfl, by simp [good]⟩
  | k + 1, hk => by
    obtain ⟨h1, h2⟩ := all_count r bill B hp hv hd k (by omega)
    have hk' : k < B.length := by omega
    have hne : B ≠ [] := fun e => by rw [e] at hk'; simp at hk'
    have hok : okP r bill B k = true := by
      have hs := (good_spec r bill B k (by omega)).1
      rw [h2] at hs
      unfold cntP at hs
      rw [if_pos (hp hne)] at hs
      unfold okP okB
      rw [hp hne, List.getElem?_eq_getElem hk', Bool.true_and]
      simp only [hv B[k] (List.getElem_mem hk'), Bool.and_true, hs]
      have hnm : B[k].mem ∉ (B.take k).map Vt.mem := fun hm => by
        have h5 : B.take k ++ B.drop k = B := List.take_append_drop k B
        rw [← h5, List.map_append, List.nodup_append] at hd
        refine hd.2.2 _ hm B[k].mem ?_ rfl
        rw [List.drop_eq_getElem_cons hk', List.map_cons]
        exact List.mem_cons_self ..
      have hc : (List.map Vt.mem (List.take k B)).reverse.contains B[k].mem = false := by
        cases hb : (List.map Vt.mem (List.take k B)).reverse.contains B[k].mem with
        | false => rfl
        | true =>
          exact absurd (List.mem_reverse.1 (List.contains_iff_mem.1 hb)) hnm
      rw [hc]
      rfl
    exact ⟨by rw [cntP_ok _ _ _ _ hk' hok]; exact h1, by rw [good_ok _ _ _ _ hk' hok, h2, List.take_succ_eq_append_getElem hk']⟩
/-- The votes that count, in reverse order, all count, as before. -/
theorem back_count (r : Rl) (bill : ByteArray) (l B : List Vt) (h : B.reverse = good r bill l l.length) : (cnt r bill B).yes = (cnt r bill l).yes ∧ (cnt r bill B).no = (cnt r bill l).no ∧ (cnt r bill B).bad = [] := by
  obtain ⟨g1, g2, g3, g4⟩ := good_spec r bill l l.length (Nat.le_refl _)
  obtain ⟨s1, _, _⟩ := seen_spec r bill l l.length (Nat.le_refl _)
  rw [g1, ← h, List.map_reverse, List.reverse_reverse] at s1
  have hm : ∀ v ∈ B, properB r = true ∧ validB r bill v = true := fun v hv => g4 v (by rw [← h]; exact List.mem_reverse.2 hv)
  obtain ⟨a1, a2⟩ := all_count r bill B (fun hne => by
    cases B with
    | nil => exact absurd rfl hne
    | cons a B => exact (hm a (List.mem_cons_self ..)).1) (fun v hv => (hm v hv).2) s1 B.length (Nat.le_refl _)
  obtain ⟨_, b2, b3, _⟩ := good_spec r bill B B.length (Nat.le_refl _)
  rw [a2, List.take_length] at b2 b3
  refine ⟨?_, ?_, by rw [cnt_P]; exact a1⟩
  · rw [cnt_P, cnt_P, b2, g2, ← h, List.countP_reverse]
  · rw [cnt_P, cnt_P, b3, g3, ← h, List.countP_reverse]
/-- One vote more. -/
theorem cntTo_snoc (r : Rl) (bill : ByteArray) (l : List Vt) (v : Vt) : ∀ k ≤ l.length, cntTo r bill (l ++ [v]) k = cntTo r bill l k
  | 0, _ => rfl
  | k + 1, hk => by
    rw [cntTo_succ _ _ _ _ (by rw [List.length_append]; simp; omega), cntTo_succ _ _ _ _ (by omega), cntTo_snoc r bill l v k (by omega), List.getElem_append_left]
theorem cnt_snoc (r : Rl) (bill : ByteArray) (l : List Vt) (v : Vt) (h : okP r bill (l ++ [v]) l.length = true) : cnt r bill (l ++ [v]) = ⟨v.mem :: (cnt r bill l).seen, if v.yes then (cnt r bill l).yes + 1 else (cnt r bill l).yes, if v.yes then (cnt r bill l).no else (cnt r bill l).no + 1, (cnt r bill l).bad⟩ := by
  have hk : l.length < (l ++ [v]).length := by simp
  have h1 : cntP r bill (l ++ [v]) l.length = cntP r bill l l.length := by
    unfold cntP
    rw [cntTo_snoc r bill l v l.length (Nat.le_refl _)]
  have hg : (l ++ [v])[l.length] = v := by simp
  have h2 := cntP_ok r bill (l ++ [v]) l.length hk h
  rw [h1, hg] at h2
  have hl : (l ++ [v]).length = l.length + 1 := by simp
  rw [cnt_P, hl, h2, cnt_P]
/-- The last vote counts where it is not among those that do not. -/
theorem ok_last (r : Rl) (bill : ByteArray) (l : List Vt) (v : Vt) (h : (cnt r bill (l ++ [v])).bad.getLast? ≠ some l.length) : okP r bill (l ++ [v]) l.length = true := by
  cases hok : okP r bill (l ++ [v]) l.length with
  | true => rfl
  | false =>
    have hk : l.length < (l ++ [v]).length := by simp
    have hl : (l ++ [v]).length = l.length + 1 := by simp
    exact absurd (by rw [cnt_P, hl, (bad_at r bill (l ++ [v]) l.length hk hok).2, List.getLast?_concat]) h
/-- Votes of members below zero count for nothing. -/
theorem none_count (r : Rl) (bill : ByteArray) (l : List Vt) (h : ∀ v ∈ l, v.mem < 0) : ∀ k ≤ l.length, (cntP r bill l k).yes = 0 ∧ (cntP r bill l k).no = 0
  | 0, _ => by rw [cntP_zero]; exact ⟨rfl, rfl⟩
  | k + 1, hk => by
    have h1 := none_count r bill l h k (by omega)
    cases hok : okP r bill l k with
    | false => rw [cntP_bad _ _ _ _ (by omega) hok]; exact h1
    | true =>
      have h2 := (validB_spec (okP_spec (by omega) hok).2.2).2.2.1
      have := h l[k] (List.getElem_mem _)
      omega
end Go.Proofs.YtgncahnkkpjdpaaDoor.Dg
/- Lists of numbers compared; the examples of pandectlaw39 in plain Lean; what a head of these laws holds. No conditions but those that each theorem states. -/
namespace Go.Proofs.YtgncahnkkpjdpaaDoor
open Go Go.RowKit Go.Sort Go.Maps
/-- A slice of numbers. -/
structure Nums (w : World) (A : Option Addr) (l : List Int) : Prop where
  at_ : 0 < l.length → ∃ b off, A = some ⟨b, off, none⟩ ∧ b < w.heap.size ∧ ∀ (j : Nat) x, l[j]? = some x → w.cell? ⟨b, off + j, none⟩ = some (.int .i64 x)
theorem Nums.keep {w w' : World} {A : Option Addr} {l : List Int} (h : Nums w A l) (hb : Below w.heap.size w w') : Nums w' A l :=
  ⟨fun h0 => by
    obtain ⟨b, off, e, hlt, hc⟩ := h.at_ h0
    exact ⟨b, off, e, Nat.lt_of_lt_of_le hlt hb.size, fun j x hj => (hb.cell hlt).trans (hc j x hj)⟩⟩
theorem Nums.get {w : World} {A : Option Addr} {l : List Int} (h : Nums w A l) {k : Nat} (hk : k < l.length) : ∃ b off, A = some ⟨b, off, none⟩ ∧ b < w.heap.size ∧ w.cell? ⟨b, off + k, none⟩ = some (.int .i64 l[k]) := by
  obtain ⟨b, off, e, hb, hc⟩ := h.at_ (by omega)
  exact ⟨b, off, e, hb, hc k _ (List.getElem?_eq_getElem hk)⟩
/-- Numbers of the call's own. -/
theorem OwnV.nums {w : World} {B : Nat} {T : TypeId} {v : Value} {l : List Int} (h : OwnV w B T v (l.map (Value.int .i64))) : ∃ A c, v = .slice A l.length c ∧ Nums w A l := by
  obtain ⟨hl, h⟩ := h
  rw [List.length_map] at h hl
  rcases h with ⟨rfl, h0⟩ | ⟨g, cap, cur, rfl, hB, hg, hc, _, hsz, hx⟩
  · obtain rfl := List.length_eq_zero_iff.1 h0
    exact ⟨none, 0, rfl, ⟨fun h => by simp at h⟩⟩
  · refine ⟨_, cap, rfl, ⟨fun _ => ⟨g, 0, rfl, lt_of_block hg, fun j x hj => ?_⟩⟩⟩
    rw [Nat.zero_add, cell_of_row _ _ _ _ _ (0, 0) hg, ← Array.getElem?_toList]
    have h1 : (cur.toList.take (l.length * 1))[j]? = some (.int .i64 x) := by rw [hx, List.getElem?_map, hj]; rfl
    rw [List.getElem?_take] at h1
    split at h1
    · exact h1
    · exact absurd h1 (by simp)
theorem Nums.lit (w : World) (l : List Int) (cs : Array Value) (T : TypeId) (hcs : cs.toList = l.map (Value.int .i64)) : Nums (w.alloc (.cells cs T)) (some ⟨w.heap.size, 0, none⟩) l :=
  ⟨fun _ => ⟨_, _, rfl, by simp, fun j x hj => by
    rw [Nat.zero_add, cell_of_row _ _ _ _ _ (0, 0) (heap_alloc_new w _), ← Array.getElem?_toList, hcs, List.getElem?_map, hj]
    rfl⟩⟩
set_option maxHeartbeats 400000 in
theorem ints_any (A A' : Option Addr) (c c' n n' : Nat) (l m : List Int) (hn : l.length = n) (hn' : m.length = n') (R : Bool) (hR : decide (l = m) = R) (w : World) (hl : n ≤ 9223372036854775807) (_hl' : n' ≤ 9223372036854775807) (hr : Nums w A l) (hr' : Nums w A' m) :
    Calls Tryd.prog 25 #[.slice A n c, .slice A' n' c'] w fun e w' => e = .returned (.bool R) ∧ Below w.heap.size w w' := by
  subst hn hn'
  have HR := hide hR; clear hR
  by_cases hlen : l.length = m.length
  · have hne : ((l.length : Int) != (m.length : Int)) = false := by rw [bne_eq_false_iff_eq]; omega
    go_enter Tryd.func25, Tryd.ntmps25
    go_wp2
    go_loopw [5] (fun i wr => ∃ k : Nat, k ≤ l.length ∧ i = .int .i64 k ∧ Below w.heap.size w wr ∧ Hid (l.take k = m.take k)) (fun i _ => l.length - (intOf i).toNat)
    case atStart => exact ⟨0, by omega, rfl, Below.refl _ _, rfl⟩
    case round =>
      obtain ⟨k, hk, rfl, hb, hall⟩ := hrel
      by_cases hlt : k < l.length
      · have hlt' : k < m.length := by omega
        obtain ⟨b, off, rfl, hbl, hcell⟩ := (hr.keep hb).get hlt
        obtain ⟨b', off', rfl, hbl', hcell'⟩ := (hr'.keep hb).get hlt'
        have hts := hide (List.take_succ_eq_append_getElem hlt)
        have hts' := hide (List.take_succ_eq_append_getElem hlt')
        have hg := hide (List.getElem?_eq_getElem hlt)
        have hg' := hide (List.getElem?_eq_getElem hlt')
        generalize l[k] = x at *
        generalize m[k] = y at *
        by_cases hxy : x = y
        · subst hxy
          have ht : (x == x) = true := beq_self_eq_true x
          have ht2 : (x != x) = false := by rw [bne, ht]; rfl
          go_wp2
          go_quiet (fail)
          go_wp2
          go_roundw
          case rel => exact ⟨k + 1, by omega, by go_num, below_drewN hb _, by unfold Hid; rw [hts.out, hts'.out, hall.out]⟩
          case measure => simp [intOf]; omega
        · have ht : (x == y) = false := beq_eq_false_iff_ne.2 hxy
          have ht2 : (x != y) = true := by rw [bne, ht]; rfl
          have HXY := hide hxy; clear hxy
          go_wp2
          go_quiet (fail)
          go_wp2
          go_ret
          refine ⟨ret_bool ?_, below_drewN hb _⟩
          rw [← HR.out]
          refine (decide_eq_false fun h => ?_).symm
          have h1 := hg.out
          rw [h, hg'.out] at h1
          exact HXY.out (Option.some.inj h1).symm
      · obtain rfl : k = l.length := by omega
        have h1 := hall.out
        rw [List.take_length, List.take_of_length_le (by omega)] at h1
        go_wp2
        go_ret
        exact ⟨ret_bool (by rw [← HR.out]; exact (decide_eq_true h1).symm), hb⟩
  · have hne : ((l.length : Int) != (m.length : Int)) = true := by rw [bne_iff_ne]; omega
    go_enter Tryd.func25, Tryd.ntmps25
    go_wp2
    go_ret
    exact ⟨ret_bool (by rw [← HR.out]; exact (decide_eq_false fun h => hlen (by rw [h])).symm), Below.refl _ _⟩
/-- Count, with open results. -/
theorem counted_of (ch q nu de : Int) (A : Option Addr) (n e : Nat) (K : List ByteArray) (bill : ByteArray) (AV : Option Addr) (nV eV : Nat) (l : List Dg.Vt) (w : World) (he : Env w) (hK : K.length = n) (kn : n ≤ 1099511627776) (hkz : ∀ s ∈ K, s.size ≤ 4611686018427387904) (hS : Strs w w.heap.size A K)
    (hl : l.length = nV) (hn : nV ≤ 1048576) (hv : ∀ v ∈ l, Vt0 v) (hV : Vts w w.heap.size AV l) (Y N : Int) (Bd : List Int) (hY : (((Dg.cnt ⟨ch, K, q, nu, de⟩ bill l).yes : Nat) : Int) = Y) (hN : (((Dg.cnt ⟨ch, K, q, nu, de⟩ bill l).no : Nat) : Int) = N) (hB : (Dg.cnt ⟨ch, K, q, nu, de⟩ bill l).bad.map Int.ofNat = Bd) (m : Nat) (hm : Bd.length = m) :
    Calls Tryd.prog 12 #[.agg #[.int .i64 ch, .slice A n e, .int .i64 q, .int .i64 nu, .int .i64 de], .string bill, .slice AV nV eV] w fun r w' => ∃ Ab cb, r = .returned (.tuple #[.int .i64 Y, .int .i64 N, .slice Ab m cb]) ∧ Nums w' Ab Bd ∧ Below w.heap.size w w' := by
  refine (count_of ch q nu de A n e K bill AV nV eV l w he hK kn hkz hS hl hn hv hV _ rfl).mono ?_
  rintro r w' ⟨⟨v, rfl, hO⟩, hb⟩
  have hO2 : OwnV w' w.heap.size 3 v (Bd.map (Value.int .i64)) := by
    rw [← hB, List.map_map]
    exact hO
  obtain ⟨Ab, cb, rfl, hNm⟩ := hO2.nums
  exact ⟨Ab, cb, by rw [hY, hN, hm], hNm, hb⟩
/-! The examples. -/
def xroll : Dg.Rl := ⟨1, xkeys, 2, 1, 2⟩
def xa : ByteArray := ⟨#[97]⟩
def xc : ByteArray := ⟨#[99]⟩
theorem xkeys_dig : ∀ s ∈ xkeys, Dg.isB s = true := fun s hs => by
  obtain ⟨x, hx, rfl⟩ := List.mem_map.1 hs
  exact verifyB_digest (verifyB_self x ⟨#[]⟩ 1 0 (by decide) (by decide))
theorem xroll_proper : Dg.properB xroll = true := by
  unfold Dg.properB xroll Dg.ratioB allDig
  simp only [xkeys_len, Bool.and_eq_true, decide_eq_true_eq, List.all_eq_true]
  exact ⟨by decide, by decide, by decide, by decide, by decide, by decide, xkeys_dig⟩
theorem xvalid (m i : Nat) (y : Bool) (s : ByteArray) (hm : xsecs[m]? = some s) (hi : i < 2) : Dg.validB xroll xbill (signedV s m i y) = true := by
  have hm3 : m < 3 := (List.getElem?_eq_some_iff.1 hm).1
  have hk : xkeys.getD m ⟨#[]⟩ = Dg.publicB s 1 := by rw [List.getD_eq_getElem?_getD, xkeys_get m s hm]; rfl
  unfold Dg.validB
  simp only [Bool.and_eq_true, decide_eq_true_eq]
  refine ⟨rfl, rfl, ?_, ?_, ?_⟩
  · show (0 : Int) ≤ (m : Int); omega
  · show (m : Int) < (xkeys.length : Nat); rw [xkeys_len]; omega
  · show verifyB (xkeys.getD (m : Int).toNat ⟨#[]⟩) _ _ _ _ = true
    rw [Int.toNat_natCast, hk]
    exact verifyB_self s _ 1 i (by decide) hi
def forgedV (v : Dg.Vt) : Dg.Vt := ⟨v.mem, v.bill, v.cham, false, v.idx, v.sig, v.path⟩
theorem xforged : Dg.validB xroll xbill (forgedV (signedV xb 1 0 true)) = false := by
  have h : verifyB (xkeys.getD 1 ⟨#[]⟩) (Dg.msgB 1 xbill 1 false) 0 (Dg.sigB xb 0 (Dg.msgB 1 xbill 1 true)) (Dg.sealPath xb 1 0) = false := forged_no
  cases hv : Dg.validB xroll xbill (forgedV (signedV xb 1 0 true)) with
  | false => rfl
  | true =>
    have h2 := (Dg.validB_spec hv).2.2.2.2
    have h3 : verifyB (xkeys.getD 1 ⟨#[]⟩) (Dg.msgB 1 xbill 1 false) 0 (Dg.sigB xb 0 (Dg.msgB 1 xbill 1 true)) (Dg.sealPath xb 1 0) = true := h2
    rw [h] at h3
    cases h3
theorem step_ok {r : Dg.Rl} {bill : ByteArray} {s : Dg.St} {i : Nat} {v : Dg.Vt} (hs : s.seen.contains v.mem = false) (hv : Dg.validB r bill v = true) : s.step r bill i v = ⟨v.mem :: s.seen, if v.yes then s.yes + 1 else s.yes, if v.yes then s.no else s.no + 1, s.bad⟩ := by
  unfold Dg.St.step Dg.okB
  rw [hs, hv]
  rfl
theorem step_no {r : Dg.Rl} {bill : ByteArray} {s : Dg.St} {i : Nat} {v : Dg.Vt} (h : (!(s.seen.contains v.mem) && Dg.validB r bill v) = false) : s.step r bill i v = ⟨s.seen, s.yes, s.no, s.bad ++ [i]⟩ := by
  unfold Dg.St.step Dg.okB
  rw [h]
  rfl
theorem cnt_on (r : Dg.Rl) (bill : ByteArray) (l : List Dg.Vt) (hp : Dg.properB r = true) : Dg.cnt r bill l = Dg.cntTo r bill l l.length := by unfold Dg.cnt; rw [hp]; rfl
theorem xcar {l : List Dg.Vt} {S : Dg.St} (h : Dg.cnt xroll xbill l = S) (h120 : l.length ≤ 120) : Dg.carE xroll 1 xbill l = if ((S.yes : Nat) : Int) + (S.no : Nat) < 2 then 20 else if 2 * ((S.yes : Nat) : Int) ≤ 1 * (((S.yes : Nat) : Int) + (S.no : Nat)) then 12 else 0 := by
  have hB : Dg.isB xbill = true := by decide
  have hc : decide ((1 : Int) = xroll.cham) = true := by decide
  unfold Dg.carE
  rw [h, xroll_proper, hB, hc, if_neg (by decide), if_neg (by omega)]
  rfl
/-- What the examples come to. -/
structure Ex39 (a b c o d : Dg.Vt) : Prop where
  e1 : Dg.carE xroll 1 xbill [a, d] = 12
  e2 : Dg.carE xroll 1 xbill [a, b, c] = 0
  e3 : Dg.carE xroll 1 xbill [a, a] = 20
  e4 : Dg.carE xroll 1 xbill [a, o, b] = 0
  e5 : Dg.cnt xroll xbill [a, o, forgedV b, b, c] = ⟨[2, 1, 0], 2, 1, [1, 2]⟩
theorem ex39 : Ex39 (signedV xa 0 0 true) (signedV xb 1 0 true) (signedV xc 2 0 false) (signedV xa 0 1 false) (signedV xb 1 1 false) := by
  have va := xvalid 0 0 true xa rfl (by decide)
  have vb := xvalid 1 0 true xb rfl (by decide)
  have vc := xvalid 2 0 false xc rfl (by decide)
  have vo := xvalid 0 1 false xa rfl (by decide)
  have vd := xvalid 1 1 false xb rfl (by decide)
  have vf := xforged
  have ma : (signedV xa 0 0 true).mem = 0 := rfl
  have mb : (signedV xb 1 0 true).mem = 1 := rfl
  have mc : (signedV xc 2 0 false).mem = 2 := rfl
  have mo : (signedV xa 0 1 false).mem = 0 := rfl
  have md : (signedV xb 1 1 false).mem = 1 := rfl
  have ya : (signedV xa 0 0 true).yes = true := rfl
  have yb : (signedV xb 1 0 true).yes = true := rfl
  have yc : (signedV xc 2 0 false).yes = false := rfl
  have yo : (signedV xa 0 1 false).yes = false := rfl
  have yd : (signedV xb 1 1 false).yes = false := rfl
  generalize signedV xa 0 0 true = a at *
  generalize signedV xb 1 0 true = b at *
  generalize signedV xc 2 0 false = c at *
  generalize signedV xa 0 1 false = o at *
  generalize signedV xb 1 1 false = d at *
  have s0 : (Dg.St.none).step xroll xbill 0 a = ⟨[0], 1, 0, []⟩ := by rw [step_ok (by rw [ma]; rfl) va, ma, ya]; rfl
  have t1 : Dg.cnt xroll xbill [a, d] = ⟨[1, 0], 1, 1, []⟩ := by
    rw [cnt_on _ _ _ xroll_proper]
    show ((Dg.St.none).step xroll xbill 0 a).step xroll xbill 1 d = _
    rw [s0, step_ok (by rw [md]; rfl) vd, md, yd]; rfl
  have s2 : (⟨[0], 1, 0, []⟩ : Dg.St).step xroll xbill 1 b = ⟨[1, 0], 2, 0, []⟩ := by rw [step_ok (by rw [mb]; rfl) vb, mb, yb]; rfl
  have t2 : Dg.cnt xroll xbill [a, b, c] = ⟨[2, 1, 0], 2, 1, []⟩ := by
    rw [cnt_on _ _ _ xroll_proper]
    show (((Dg.St.none).step xroll xbill 0 a).step xroll xbill 1 b).step xroll xbill 2 c = _
    rw [s0, s2, step_ok (by rw [mc]; rfl) vc, mc, yc]; rfl
  have t3 : Dg.cnt xroll xbill [a, a] = ⟨[0], 1, 0, [1]⟩ := by
    rw [cnt_on _ _ _ xroll_proper]
    show ((Dg.St.none).step xroll xbill 0 a).step xroll xbill 1 a = _
    rw [s0, step_no (by rw [ma]; rfl)]; rfl
  have s1 : (⟨[0], 1, 0, []⟩ : Dg.St).step xroll xbill 1 o = ⟨[0], 1, 0, [1]⟩ := by rw [step_no (by rw [mo]; rfl)]; rfl
  have t4 : Dg.cnt xroll xbill [a, o, b] = ⟨[1, 0], 2, 0, [1]⟩ := by
    rw [cnt_on _ _ _ xroll_proper]
    show (((Dg.St.none).step xroll xbill 0 a).step xroll xbill 1 o).step xroll xbill 2 b = _
    rw [s0, s1, step_ok (by rw [mb]; rfl) vb, mb, yb]; rfl
  have s3 : (⟨[0], 1, 0, [1]⟩ : Dg.St).step xroll xbill 2 (forgedV b) = ⟨[0], 1, 0, [1, 2]⟩ := by rw [step_no (by rw [vf, Bool.and_false])]; rfl
  have s4 : (⟨[0], 1, 0, [1, 2]⟩ : Dg.St).step xroll xbill 3 b = ⟨[1, 0], 2, 0, [1, 2]⟩ := by rw [step_ok (by rw [mb]; rfl) vb, mb, yb]; rfl
  have s5 : (⟨[1, 0], 2, 0, [1, 2]⟩ : Dg.St).step xroll xbill 4 c = ⟨[2, 1, 0], 2, 1, [1, 2]⟩ := by rw [step_ok (by rw [mc]; rfl) vc, mc, yc]; rfl
  have t5 : Dg.cnt xroll xbill [a, o, forgedV b, b, c] = ⟨[2, 1, 0], 2, 1, [1, 2]⟩ := by
    rw [cnt_on _ _ _ xroll_proper]
    show (((((Dg.St.none).step xroll xbill 0 a).step xroll xbill 1 o).step xroll xbill 2 (forgedV b)).step xroll xbill 3 b).step xroll xbill 4 c = _
    rw [s0, s1, s3, s4, s5]
  exact ⟨(xcar t1 (by simp)).trans (by decide), (xcar t2 (by simp)).trans (by decide), (xcar t3 (by simp)).trans (by decide), (xcar t4 (by simp)).trans (by decide), t5⟩
end Go.Proofs.YtgncahnkkpjdpaaDoor
/- head of pandectlaw39. No conditions but those that each theorem states. -/
namespace Go.Proofs.YtgncahnkkpjdpaaDoor
open Go Go.RowKit Go.Sort Go.Maps
/-- What a head holds: rows of its own, votes, keys. -/
structure HS (B : Nat) (rows : List (Value × TypeId × List Value)) (vs : List VtC) (A : Option Addr) (K : List ByteArray) (W : World) : Prop where
  own : OwnL W B rows
  vin : ∀ c ∈ vs, VtIn W W.heap.size c.v c.A1 c.A2 c.e1 c.e2
  key : Strs W W.heap.size A K
  env : Env W
theorem HS.below {B : Nat} {rows : List (Value × TypeId × List Value)} {vs : List VtC} {A : Option Addr} {K : List ByteArray} {W W' : World} (h : HS B rows vs A K W) (hb : Below W.heap.size W W') : HS B rows vs A K W' :=
  ⟨h.own.below hb, fun c hc => (h.vin c hc).keep hb, keepS h.key hb, h.env.next hb⟩
theorem HS.lit {B : Nat} {rows : List (Value × TypeId × List Value)} {vs : List VtC} {A : Option Addr} {K : List ByteArray} {W : World} (h : HS B rows vs A K W) (hB : B ≤ W.heap.size) (cs : Array Value) (T : TypeId) (n : Nat) (hn : cs.size = n) (hm : n ≤ maxLen) : HS B ((.slice (some ⟨W.heap.size, 0, none⟩) n n, T, cs.toList) :: rows) vs A K (W.alloc (.cells cs T)) :=
  ⟨h.own.lit hB cs T n hn hm, (h.below (Below.news (Below.refl _ _) _)).vin, (h.below (Below.news (Below.refl _ _) _)).key, (h.below (Below.news (Below.refl _ _) _)).env⟩
theorem HS.vote {B : Nat} {rows : List (Value × TypeId × List Value)} {vs : List VtC} {A : Option Addr} {K : List ByteArray} {W : World} (h : HS B rows vs A K W) (c : VtC) (hc : VtIn W W.heap.size c.v c.A1 c.A2 c.e1 c.e2) : HS B rows (c :: vs) A K W :=
  ⟨h.own, fun x hx => by rcases List.mem_cons.1 hx with rfl | hx; exact hc; exact h.vin x hx, h.key, h.env⟩
theorem vt0_signed (s : ByteArray) (m i : Nat) (y : Bool) (hm : m < 3) : Vt0 (signedV s m i y) where
  m0 := by show -9223372036854775808 ≤ (m : Int); omega
  m1 := by show (m : Int) ≤ 9223372036854775807; omega
  c0 := by show -9223372036854775808 ≤ (1 : Int); omega
  c1 := by show (1 : Int) ≤ 9223372036854775807; omega
  bz := by show xbill.size ≤ 1073741824; decide
  sz := fun t ht => by rw [Dg.isB_len (Dg.sigB_isB s i _ t ht)]; decide
  pz := fun t ht => by rw [Dg.isB_len (Dg.sealPath_isB s 1 i t ht)]; decide
theorem vt0_forged {v : Dg.Vt} (h : Vt0 v) : Vt0 (forgedV v) := ⟨h.m0, h.m1, h.c0, h.c1, h.bz, h.sz, h.pz⟩
theorem signed_of (m i : Nat) (M I : Int) (y : Bool) (s : ByteArray) (hM : M = m) (hI : I = i) (hm : xsecs[m]? = some s) (hi : i < 2) (v : Dg.Vt) (hv : signedV s m i y = v) (w : World) (he : Env w) :
    Calls Tryd.prog 24 #[.int .i64 M, .int .i64 I, .bool y] w fun r w' => ∃ A1 A2 e1 e2, r = .returned (.agg #[.int .i64 v.mem, .string v.bill, .int .i64 v.cham, .bool v.yes, .int .i64 v.idx, .slice A1 v.sig.length e1, .slice A2 v.path.length e2]) ∧ VtIn w' w'.heap.size v A1 A2 e1 e2 ∧ Below w.heap.size w w' := by
  subst hM hI hv; exact signed_any m i y s hm hi w he
theorem head1_of (g : Nat) (A : Option Addr) (e : Nat) (AV : Option Addr) (nV eV : Nat) (l : List Dg.Vt) (hl : l.length = nV) (hn : nV ≤ 8) (hv : ∀ v ∈ l, Vt0 v) (E : Int) (hE : Dg.carE xroll 1 xbill l = E) (w : World) (he : Env w) (hr : w.heap[g]? = some (.cells #[.int .i64 1, .slice A 3 e, .int .i64 2, .int .i64 1, .int .i64 2] 24 (0, 0))) (hS : Strs w w.heap.size A xkeys) (hV : Vts w w.heap.size AV l) :
    Calls Tryd.prog 23 #[.slice AV nV eV, .pointer (some ⟨g, 0, none⟩)] w fun r w' => r = .returned (.int .i64 E) ∧ Below w.heap.size w w' := by
  have HE := hide hE; have HL := hide hl; have HV := hide hv
  clear hE hl hv
  have c0 : w.cell? ⟨g, 0, none⟩ = some (.int .i64 1) := by rw [cell_of_row _ _ _ _ _ (0, 0) hr]; rfl
  have c1 : w.cell? ⟨g, 1, none⟩ = some (.slice A 3 e) := by rw [cell_of_row _ _ _ _ _ (0, 0) hr]; rfl
  have c2 : w.cell? ⟨g, 2, none⟩ = some (.int .i64 2) := by rw [cell_of_row _ _ _ _ _ (0, 0) hr]; rfl
  have c3 : w.cell? ⟨g, 3, none⟩ = some (.int .i64 1) := by rw [cell_of_row _ _ _ _ _ (0, 0) hr]; rfl
  have c4 : w.cell? ⟨g, 4, none⟩ = some (.int .i64 2) := by rw [cell_of_row _ _ _ _ _ (0, 0) hr]; rfl
  have hk3 : Hid (xkeys.length = 3) := xkeys_len
  have hkz : Hid (∀ s ∈ xkeys, s.size ≤ 4611686018427387904) := fun s hs => by rw [Dg.isB_len (xkeys_dig s hs)]; decide
  go_enter Tryd.func23, Tryd.ntmps23
  go_wp2_with fail
  refine (carried_of 1 2 1 2 A 3 e xkeys 1 xbill AV nV eV l w he hk3.out (by omega) hkz.out hS HL.out (by omega) HV.out hV (by decide) E HE.out).mono ?_
  rintro r w2 ⟨rfl, hb2⟩
  go_wp2
  go_ret
  exact ⟨rfl, hb2⟩
set_option maxRecDepth 100000 in
set_option maxHeartbeats 16000000 in
theorem head39_any (w : World) (he : Env w) : Calls Tryd.prog 9 #[] w fun r w' => r = .returned (.bool true) ∧ Below w.heap.size w w' := by
  have hX := ex39
  have za := vt0_signed xa 0 0 true (by decide)
  have zb := vt0_signed xb 1 0 true (by decide)
  have zc := vt0_signed xc 2 0 false (by decide)
  have zo := vt0_signed xa 0 1 false (by decide)
  have zd := vt0_signed xb 1 1 false (by decide)
  generalize ha : signedV xa 0 0 true = a at *
  generalize hb : signedV xb 1 0 true = b at *
  generalize hc : signedV xc 2 0 false = c at *
  generalize ho : signedV xa 0 1 false = o at *
  generalize hd : signedV xb 1 1 false = d at *
  have HA := hide ha; have HB := hide hb; have HC := hide hc; have HO := hide ho; have HD := hide hd
  have HX := hide hX
  have Z := hide (And.intro za (And.intro zb (And.intro zc (And.intro zo zd))))
  clear ha hb hc ho hd hX za zb zc zo zd
  go_enter Tryd.func9, Tryd.ntmps9
  go_wp2_with fail
  refine (roll_any _ he).mono ?_
  rintro r w1 ⟨A, e, rfl, hS, hle, hb1⟩
  have hH : HS w.heap.size [] [] A xkeys w1 := ⟨OwnL.nil _ _, fun _ h => (by cases h), hS, he.next hb1⟩
  replace hH := hH.lit hb1.size #[.int .i64 1, .slice A 3 e, .int .i64 2, .int .i64 1, .int .i64 2] 24 5 rfl (by unfold maxLen; omega)
  have hbb := bnext hb1 (Below.news (Below.refl w1.heap.size w1) (.cells #[.int .i64 1, .slice A 3 e, .int .i64 2, .int .i64 1, .int .i64 2] 24))
  clear hb1 hS
  go_wp2_with fail
  generalize w1.alloc (.cells #[.int .i64 1, .slice A 3 e, .int .i64 2, .int .i64 1, .int .i64 2] 24) = w2 at *
  generalize w1.heap.size = g1 at *
  refine (signed_of 0 0 0 0 true xa rfl rfl rfl (by decide) a HA.out _ hH.env).mono ?_
  rintro r wa ⟨A1a, A2a, e1a, e2a, rfl, hin, hbn⟩
  replace hH := (hH.below hbn).vote ⟨a, A1a, A2a, e1a, e2a⟩ hin
  replace hbb := bnext hbb hbn
  clear hbn hin
  go_wp2_with fail
  refine (signed_of 1 0 1 0 true xb rfl rfl rfl (by decide) b HB.out _ hH.env).mono ?_
  rintro r wb ⟨A1b, A2b, e1b, e2b, rfl, hin, hbn⟩
  replace hH := (hH.below hbn).vote ⟨b, A1b, A2b, e1b, e2b⟩ hin
  replace hbb := bnext hbb hbn
  clear hbn hin
  go_wp2_with fail
  refine (signed_of 2 0 2 0 false xc rfl rfl rfl (by decide) c HC.out _ hH.env).mono ?_
  rintro r wc ⟨A1c, A2c, e1c, e2c, rfl, hin, hbn⟩
  replace hH := (hH.below hbn).vote ⟨c, A1c, A2c, e1c, e2c⟩ hin
  replace hbb := bnext hbb hbn
  clear hbn hin
  go_wp2_with fail
  have hg2 : (wc.alloc (.cells #[.int .i64 a.mem, .string a.bill, .int .i64 a.cham, .bool a.yes, .int .i64 a.idx, .slice A1a a.sig.length e1a, .slice A2a a.path.length e2a] 33)).heap.size = wc.heap.size + 1 := by simp
  have hg3 : ((wc.alloc (.cells #[.int .i64 a.mem, .string a.bill, .int .i64 a.cham, .bool a.yes, .int .i64 a.idx, .slice A1a a.sig.length e1a, .slice A2a a.path.length e2a] 33)).alloc (.cells #[.int .i64 b.mem, .string b.bill, .int .i64 b.cham, .bool b.yes, .int .i64 b.idx, .slice A1b b.sig.length e1b, .slice A2b b.path.length e2b] 33)).heap.size = wc.heap.size + 1 + 1 := by simp
  replace hH := ((hH.lit hbb.size #[.int .i64 a.mem, .string a.bill, .int .i64 a.cham, .bool a.yes, .int .i64 a.idx, .slice A1a a.sig.length e1a, .slice A2a a.path.length e2a] 33 7 rfl (by unfold maxLen; omega)).lit (by rw [hg2]; have := hbb.size; omega) #[.int .i64 b.mem, .string b.bill, .int .i64 b.cham, .bool b.yes, .int .i64 b.idx, .slice A1b b.sig.length e1b, .slice A2b b.path.length e2b] 33 7 rfl (by unfold maxLen; omega)).lit (by rw [hg3]; have := hbb.size; omega) #[.int .i64 c.mem, .string c.bill, .int .i64 c.cham, .bool c.yes, .int .i64 c.idx, .slice A1c c.sig.length e1c, .slice A2c c.path.length e2c] 33 7 rfl (by unfold maxLen; omega)
  replace hbb := bnext (bnext (bnext hbb (Below.news (Below.refl wc.heap.size wc) (.cells #[.int .i64 a.mem, .string a.bill, .int .i64 a.cham, .bool a.yes, .int .i64 a.idx, .slice A1a a.sig.length e1a, .slice A2a a.path.length e2a] 33))) (Below.news (Below.refl (wc.alloc (.cells #[.int .i64 a.mem, .string a.bill, .int .i64 a.cham, .bool a.yes, .int .i64 a.idx, .slice A1a a.sig.length e1a, .slice A2a a.path.length e2a] 33)).heap.size (wc.alloc (.cells #[.int .i64 a.mem, .string a.bill, .int .i64 a.cham, .bool a.yes, .int .i64 a.idx, .slice A1a a.sig.length e1a, .slice A2a a.path.length e2a] 33))) (.cells #[.int .i64 b.mem, .string b.bill, .int .i64 b.cham, .bool b.yes, .int .i64 b.idx, .slice A1b b.sig.length e1b, .slice A2b b.path.length e2b] 33))) (Below.news (Below.refl ((wc.alloc (.cells #[.int .i64 a.mem, .string a.bill, .int .i64 a.cham, .bool a.yes, .int .i64 a.idx, .slice A1a a.sig.length e1a, .slice A2a a.path.length e2a] 33)).alloc (.cells #[.int .i64 b.mem, .string b.bill, .int .i64 b.cham, .bool b.yes, .int .i64 b.idx, .slice A1b b.sig.length e1b, .slice A2b b.path.length e2b] 33)).heap.size ((wc.alloc (.cells #[.int .i64 a.mem, .string a.bill, .int .i64 a.cham, .bool a.yes, .int .i64 a.idx, .slice A1a a.sig.length e1a, .slice A2a a.path.length e2a] 33)).alloc (.cells #[.int .i64 b.mem, .string b.bill, .int .i64 b.cham, .bool b.yes, .int .i64 b.idx, .slice A1b b.sig.length e1b, .slice A2b b.path.length e2b] 33))) (.cells #[.int .i64 c.mem, .string c.bill, .int .i64 c.cham, .bool c.yes, .int .i64 c.idx, .slice A1c c.sig.length e1c, .slice A2c c.path.length e2c] 33))
  rw [hg2, hg3] at hH
  clear hg2 hg3
  generalize ((wc.alloc (.cells #[.int .i64 a.mem, .string a.bill, .int .i64 a.cham, .bool a.yes, .int .i64 a.idx, .slice A1a a.sig.length e1a, .slice A2a a.path.length e2a] 33)).alloc (.cells #[.int .i64 b.mem, .string b.bill, .int .i64 b.cham, .bool b.yes, .int .i64 b.idx, .slice A1b b.sig.length e1b, .slice A2b b.path.length e2b] 33)).alloc (.cells #[.int .i64 c.mem, .string c.bill, .int .i64 c.cham, .bool c.yes, .int .i64 c.idx, .slice A1c c.sig.length e1c, .slice A2c c.path.length e2c] 33) = w3 at *
  generalize wc.heap.size + 1 + 1 = gc at *
  generalize wc.heap.size + 1 = gb at *
  generalize wc.heap.size = ga at *
  refine (signed_of 0 1 0 1 false xa rfl rfl rfl (by decide) o HO.out _ hH.env).mono ?_
  rintro r wo ⟨A1o, A2o, e1o, e2o, rfl, hin, hbn⟩
  replace hH := (hH.below hbn).vote ⟨o, A1o, A2o, e1o, e2o⟩ hin
  replace hbb := bnext hbb hbn
  clear hbn hin
  replace hH := hH.lit hbb.size #[.int .i64 o.mem, .string o.bill, .int .i64 o.cham, .bool o.yes, .int .i64 o.idx, .slice A1o o.sig.length e1o, .slice A2o o.path.length e2o] 33 7 rfl (by unfold maxLen; omega)
  replace hbb := bnext hbb (Below.news (Below.refl wo.heap.size wo) (.cells #[.int .i64 o.mem, .string o.bill, .int .i64 o.cham, .bool o.yes, .int .i64 o.idx, .slice A1o o.sig.length e1o, .slice A2o o.path.length e2o] 33))
  obtain ⟨v0, v1, v2, v3, v4, v5, v6⟩ := cells7 (OwnV.row (hH.own.own _ (List.mem_cons_of_mem _ (List.mem_cons_of_mem _ (List.mem_cons_self ..)))))
  have hg2 : (wo.alloc (.cells #[.int .i64 o.mem, .string o.bill, .int .i64 o.cham, .bool o.yes, .int .i64 o.idx, .slice A1o o.sig.length e1o, .slice A2o o.path.length e2o] 33)).heap.size = wo.heap.size + 1 := by simp
  replace hH := hH.lit hbb.size #[.int .i64 b.mem, .string b.bill, .int .i64 b.cham, .bool false, .int .i64 b.idx, .slice A1b b.sig.length e1b, .slice A2b b.path.length e2b] 33 7 rfl (by unfold maxLen; omega)
  replace hH := hH.vote ⟨forgedV b, A1b, A2b, e1b, e2b⟩ (hH.vin ⟨b, A1b, A2b, e1b, e2b⟩ (List.mem_cons_of_mem _ (List.mem_cons_of_mem _ (List.mem_cons_self ..))))
  replace hbb := bnext hbb (Below.news (Below.refl (wo.alloc (.cells #[.int .i64 o.mem, .string o.bill, .int .i64 o.cham, .bool o.yes, .int .i64 o.idx, .slice A1o o.sig.length e1o, .slice A2o o.path.length e2o] 33)).heap.size (wo.alloc (.cells #[.int .i64 o.mem, .string o.bill, .int .i64 o.cham, .bool o.yes, .int .i64 o.idx, .slice A1o o.sig.length e1o, .slice A2o o.path.length e2o] 33))) (.cells #[.int .i64 b.mem, .string b.bill, .int .i64 b.cham, .bool false, .int .i64 b.idx, .slice A1b b.sig.length e1b, .slice A2b b.path.length e2b] 33))
  rw [hg2] at hH
  clear hg2
  go_upto_region 7 with (fail)
  clear v0 v1 v2 v3 v4 v5 v6
  generalize ((wo.alloc (.cells #[.int .i64 o.mem, .string o.bill, .int .i64 o.cham, .bool o.yes, .int .i64 o.idx, .slice A1o o.sig.length e1o, .slice A2o o.path.length e2o] 33)).alloc (.cells #[.int .i64 b.mem, .string b.bill, .int .i64 b.cham, .bool false, .int .i64 b.idx, .slice A1b b.sig.length e1b, .slice A2b b.path.length e2b] 33)) = w4 at *
  generalize wo.heap.size + 1 = gf at *
  generalize wo.heap.size = go at *
  obtain ⟨f0, f1, f2, f3, f4, f5, f6⟩ := cells7 (OwnV.row (hH.own.own _ (List.mem_cons_self ..)))
  obtain ⟨o0, o1, o2, o3, o4, o5, o6⟩ := cells7 (OwnV.row (hH.own.own _ (List.mem_cons_of_mem _ (List.mem_cons_self ..))))
  obtain ⟨a0, a1, a2, a3, a4, a5, a6⟩ := cells7 (OwnV.row (hH.own.own _ (List.mem_cons_of_mem _ (List.mem_cons_of_mem _ (List.mem_cons_of_mem _ (List.mem_cons_of_mem _ (List.mem_cons_self ..)))))))
  obtain ⟨b0, b1, b2, b3, b4, b5, b6⟩ := cells7 (OwnV.row (hH.own.own _ (List.mem_cons_of_mem _ (List.mem_cons_of_mem _ (List.mem_cons_of_mem _ (List.mem_cons_self ..))))))
  obtain ⟨c0, c1, c2, c3, c4, c5, c6⟩ := cells7 (OwnV.row (hH.own.own _ (List.mem_cons_of_mem _ (List.mem_cons_of_mem _ (List.mem_cons_self ..)))))
  have hrow := OwnV.row (hH.own.own _ (List.mem_cons_of_mem _ (List.mem_cons_of_mem _ (List.mem_cons_of_mem _ (List.mem_cons_of_mem _ (List.mem_cons_of_mem _ (List.mem_cons_self ..)))))))
  have r0 : w4.cell? ⟨g1, 0, none⟩ = some (.int .i64 1) := by rw [cell_of_row _ _ _ _ _ (0, 0) hrow]; rfl
  have r1 : w4.cell? ⟨g1, 1, none⟩ = some (.slice A 3 e) := by rw [cell_of_row _ _ _ _ _ (0, 0) hrow]; rfl
  have r2 : w4.cell? ⟨g1, 2, none⟩ = some (.int .i64 2) := by rw [cell_of_row _ _ _ _ _ (0, 0) hrow]; rfl
  have r3 : w4.cell? ⟨g1, 3, none⟩ = some (.int .i64 1) := by rw [cell_of_row _ _ _ _ _ (0, 0) hrow]; rfl
  have r4 : w4.cell? ⟨g1, 4, none⟩ = some (.int .i64 2) := by rw [cell_of_row _ _ _ _ _ (0, 0) hrow]; rfl
  go_wp2_with fail
  have hk3 : Hid (xkeys.length = 3) := xkeys_len
  have hkz : Hid (∀ s ∈ xkeys, s.size ≤ 4611686018427387904) := fun s hs => by rw [Dg.isB_len (xkeys_dig s hs)]; decide
  have hVl := Vts.lit w4 [⟨a, A1a, A2a, e1a, e2a⟩, ⟨o, A1o, A2o, e1o, e2o⟩, ⟨forgedV b, A1b, A2b, e1b, e2b⟩, ⟨b, A1b, A2b, e1b, e2b⟩, ⟨c, A1c, A2c, e1c, e2c⟩] #[.int .i64 a.mem, .string a.bill, .int .i64 a.cham, .bool a.yes, .int .i64 a.idx, .slice A1a a.sig.length e1a, .slice A2a a.path.length e2a, .int .i64 o.mem, .string o.bill, .int .i64 o.cham, .bool o.yes, .int .i64 o.idx, .slice A1o o.sig.length e1o, .slice A2o o.path.length e2o, .int .i64 b.mem, .string b.bill, .int .i64 b.cham, .bool false, .int .i64 b.idx, .slice A1b b.sig.length e1b, .slice A2b b.path.length e2b, .int .i64 b.mem, .string b.bill, .int .i64 b.cham, .bool b.yes, .int .i64 b.idx, .slice A1b b.sig.length e1b, .slice A2b b.path.length e2b, .int .i64 c.mem, .string c.bill, .int .i64 c.cham, .bool c.yes, .int .i64 c.idx, .slice A1c c.sig.length e1c, .slice A2c c.path.length e2c] 33 rfl (fun x hx => by simp only [List.mem_cons, List.not_mem_nil, or_false] at hx; rcases hx with rfl | rfl | rfl | rfl | rfl <;> first | exact hH.vin _ (List.mem_cons_of_mem _ (List.mem_cons_of_mem _ (List.mem_cons_of_mem _ (List.mem_cons_of_mem _ (List.mem_cons_self ..))))) | exact hH.vin _ (List.mem_cons_of_mem _ (List.mem_cons_self ..)) | exact hH.vin _ (List.mem_cons_self ..) | exact hH.vin _ (List.mem_cons_of_mem _ (List.mem_cons_of_mem _ (List.mem_cons_of_mem _ (List.mem_cons_self ..)))) | exact hH.vin _ (List.mem_cons_of_mem _ (List.mem_cons_of_mem _ (List.mem_cons_self ..))))
  have hx := Below.news (Below.refl w4.heap.size w4) (.cells #[.int .i64 a.mem, .string a.bill, .int .i64 a.cham, .bool a.yes, .int .i64 a.idx, .slice A1a a.sig.length e1a, .slice A2a a.path.length e2a, .int .i64 o.mem, .string o.bill, .int .i64 o.cham, .bool o.yes, .int .i64 o.idx, .slice A1o o.sig.length e1o, .slice A2o o.path.length e2o, .int .i64 b.mem, .string b.bill, .int .i64 b.cham, .bool false, .int .i64 b.idx, .slice A1b b.sig.length e1b, .slice A2b b.path.length e2b, .int .i64 b.mem, .string b.bill, .int .i64 b.cham, .bool b.yes, .int .i64 b.idx, .slice A1b b.sig.length e1b, .slice A2b b.path.length e2b, .int .i64 c.mem, .string c.bill, .int .i64 c.cham, .bool c.yes, .int .i64 c.idx, .slice A1c c.sig.length e1c, .slice A2c c.path.length e2c] 33)
  refine (counted_of 1 2 1 2 A 3 e xkeys xbill _ 5 5 [a, o, forgedV b, b, c] _ (hH.env.next hx) hk3.out (by decide) hkz.out (keepS hH.key hx) rfl (by decide) (fun x hx => by simp only [List.mem_cons, List.not_mem_nil, or_false] at hx; rcases hx with rfl | rfl | rfl | rfl | rfl <;> first | exact Z.out.1 | exact Z.out.2.2.2.1 | exact vt0_forged Z.out.2.1 | exact Z.out.2.1 | exact Z.out.2.2.1) hVl 2 1 [1, 2] (by rw [show (⟨1, xkeys, 2, 1, 2⟩ : Dg.Rl) = xroll from rfl, HX.out.e5]; rfl) (by rw [show (⟨1, xkeys, 2, 1, 2⟩ : Dg.Rl) = xroll from rfl, HX.out.e5]; rfl) (by rw [show (⟨1, xkeys, 2, 1, 2⟩ : Dg.Rl) = xroll from rfl, HX.out.e5]; rfl) 2 rfl).mono ?_
  rintro r w5 ⟨Ab, cb', rfl, hN, hb5⟩
  replace hH := (hH.below hx).below hb5
  replace hbb := bnext (bnext hbb hx) hb5
  clear f0 f1 f2 f3 f4 f5 f6
  clear o0 o1 o2 o3 o4 o5 o6
  clear a0 a1 a2 a3 a4 a5 a6
  clear b0 b1 b2 b3 b4 b5 b6
  clear c0 c1 c2 c3 c4 c5 c6
  clear r0 r1 r2 r3 r4 hrow hx hb5 hVl
  go_upto_region 8 with (fail)
  have hmx : Tryd.prog.follows .mixedOrders = true := by kernel_rfl
  have hHeld : (HS w.heap.size [(.slice (some ⟨gf, 0, none⟩) 7 7, 33, [.int .i64 b.mem, .string b.bill, .int .i64 b.cham, .bool false, .int .i64 b.idx, .slice A1b b.sig.length e1b, .slice A2b b.path.length e2b]), (.slice (some ⟨go, 0, none⟩) 7 7, 33, [.int .i64 o.mem, .string o.bill, .int .i64 o.cham, .bool o.yes, .int .i64 o.idx, .slice A1o o.sig.length e1o, .slice A2o o.path.length e2o]), (.slice (some ⟨gc, 0, none⟩) 7 7, 33, [.int .i64 c.mem, .string c.bill, .int .i64 c.cham, .bool c.yes, .int .i64 c.idx, .slice A1c c.sig.length e1c, .slice A2c c.path.length e2c]), (.slice (some ⟨gb, 0, none⟩) 7 7, 33, [.int .i64 b.mem, .string b.bill, .int .i64 b.cham, .bool b.yes, .int .i64 b.idx, .slice A1b b.sig.length e1b, .slice A2b b.path.length e2b]), (.slice (some ⟨ga, 0, none⟩) 7 7, 33, [.int .i64 a.mem, .string a.bill, .int .i64 a.cham, .bool a.yes, .int .i64 a.idx, .slice A1a a.sig.length e1a, .slice A2a a.path.length e2a]), (.slice (some ⟨g1, 0, none⟩) 5 5, 24, [.int .i64 1, .slice A 3 e, .int .i64 2, .int .i64 1, .int .i64 2])] [⟨forgedV b, A1b, A2b, e1b, e2b⟩, ⟨o, A1o, A2o, e1o, e2o⟩, ⟨c, A1c, A2c, e1c, e2c⟩, ⟨b, A1b, A2b, e1b, e2b⟩, ⟨a, A1a, A2a, e1a, e2a⟩] A xkeys) w5.drew := hH.below (Below.refl _ _).drew
  have hNd : Nums w5.drew Ab [1, 2] := hN.keep (Below.refl _ _).drew
  replace hbb := hbb.drew
  clear hH hN
  refine wp_region_noPanic ?_
  refine wp_region_L (HS w.heap.size [(.slice (some ⟨gf, 0, none⟩) 7 7, 33, [.int .i64 b.mem, .string b.bill, .int .i64 b.cham, .bool false, .int .i64 b.idx, .slice A1b b.sig.length e1b, .slice A2b b.path.length e2b]), (.slice (some ⟨go, 0, none⟩) 7 7, 33, [.int .i64 o.mem, .string o.bill, .int .i64 o.cham, .bool o.yes, .int .i64 o.idx, .slice A1o o.sig.length e1o, .slice A2o o.path.length e2o]), (.slice (some ⟨gc, 0, none⟩) 7 7, 33, [.int .i64 c.mem, .string c.bill, .int .i64 c.cham, .bool c.yes, .int .i64 c.idx, .slice A1c c.sig.length e1c, .slice A2c c.path.length e2c]), (.slice (some ⟨gb, 0, none⟩) 7 7, 33, [.int .i64 b.mem, .string b.bill, .int .i64 b.cham, .bool b.yes, .int .i64 b.idx, .slice A1b b.sig.length e1b, .slice A2b b.path.length e2b]), (.slice (some ⟨ga, 0, none⟩) 7 7, 33, [.int .i64 a.mem, .string a.bill, .int .i64 a.cham, .bool a.yes, .int .i64 a.idx, .slice A1a a.sig.length e1a, .slice A2a a.path.length e2a]), (.slice (some ⟨g1, 0, none⟩) 5 5, 24, [.int .i64 1, .slice A 3 e, .int .i64 2, .int .i64 1, .int .i64 2])] [⟨forgedV b, A1b, A2b, e1b, e2b⟩, ⟨o, A1o, A2o, e1o, e2o⟩, ⟨c, A1c, A2c, e1c, e2c⟩, ⟨b, A1b, A2b, e1b, e2b⟩, ⟨a, A1a, A2a, e1a, e2a⟩] A xkeys) 32 hmx ?_
  generalize w5.drew = u0 at *
  refine wpAnyL_take (i := 0) (f0 := 40) (v := ?_) rfl (by decide +kernel) (by decide +kernel) (by decide +kernel) (by decide +kernel) (by decide +kernel) (fun _ _ _ h => h) (Or.inl ⟨by rfl, ?_⟩) hHeld ?_
  rotate_left
  · intro wS hS; go_simp; (try with_reducible rfl)
  simp only [Act.put, List.getElem_toArray, List.getElem_cons_zero, List.setIfInBounds_toArray, List.set_cons_succ, List.set_cons_zero]
  refine wpAnyL_take (i := 1) (f0 := 40) (v := ?_) rfl (by decide +kernel) (by decide +kernel) (by decide +kernel) (by decide +kernel) (by decide +kernel) (fun _ _ _ h => h) (Or.inl ⟨by rfl, ?_⟩) hHeld ?_
  rotate_left
  · intro wS hS; obtain ⟨p0, p1, p2, p3, p4, p5, p6⟩ := cells7 (OwnV.row (hS.own.own _ (List.mem_cons_of_mem _ (List.mem_cons_of_mem _ (List.mem_cons_of_mem _ (List.mem_cons_of_mem _ (List.mem_cons_self ..))))))); go_simp; (try with_reducible rfl)
  simp only [Act.put, List.getElem_toArray, List.getElem_cons_succ, List.getElem_cons_zero, List.setIfInBounds_toArray, List.set_cons_succ, List.set_cons_zero]
  refine wpAnyL_one (i := 2) (by decide +kernel) (by rfl) (fun K hK => ?_)
  rw [if_pos (by rfl)]
  go_simp
  refine (signed_of 1 1 1 1 false xb rfl rfl rfl (by decide) d HD.out _ hHeld.env).mono ?_
  rintro r u1 ⟨A1d, A2d, e1d, e2d, rfl, hind, hbn⟩
  replace hHeld := hHeld.below hbn
  replace hNd := hNd.keep hbn
  replace hbb := bnext hbb hbn
  clear hbn
  refine hK.out _ _ (Or.inr hHeld) ?_
  clear hK K
  try simp only [Act.put, List.getElem_toArray, List.getElem_cons_succ, List.getElem_cons_zero, List.setIfInBounds_toArray, List.set_cons_succ, List.set_cons_zero]
  refine wpAnyL_one (i := 3) (by decide +kernel) (by rfl) (fun K hK => ?_)
  rw [if_pos (by rfl)]
  go_simp
  have hV := Vts.lit u1 [⟨a, A1a, A2a, e1a, e2a⟩, ⟨d, A1d, A2d, e1d, e2d⟩] #[.int .i64 a.mem, .string a.bill, .int .i64 a.cham, .bool a.yes, .int .i64 a.idx, .slice A1a a.sig.length e1a, .slice A2a a.path.length e2a, .int .i64 d.mem, .string d.bill, .int .i64 d.cham, .bool d.yes, .int .i64 d.idx, .slice A1d d.sig.length e1d, .slice A2d d.path.length e2d] 33 rfl (fun x hx => by simp only [List.mem_cons, List.not_mem_nil, or_false] at hx; rcases hx with rfl | rfl <;> first | exact hHeld.vin _ (List.mem_cons_of_mem _ (List.mem_cons_of_mem _ (List.mem_cons_of_mem _ (List.mem_cons_of_mem _ (List.mem_cons_self ..))))) | exact hind)
  have hbn := Below.news (Below.refl u1.heap.size u1) (.cells #[.int .i64 a.mem, .string a.bill, .int .i64 a.cham, .bool a.yes, .int .i64 a.idx, .slice A1a a.sig.length e1a, .slice A2a a.path.length e2a, .int .i64 d.mem, .string d.bill, .int .i64 d.cham, .bool d.yes, .int .i64 d.idx, .slice A1d d.sig.length e1d, .slice A2d d.path.length e2d] 33)
  replace hHeld := hHeld.below hbn
  replace hNd := hNd.keep hbn
  replace hbb := bnext hbb hbn
  clear hbn
  clear hind
  refine hK.out _ _ (Or.inr hHeld) ?_
  clear hK K
  try simp only [Act.put, List.getElem_toArray, List.getElem_cons_succ, List.getElem_cons_zero, List.setIfInBounds_toArray, List.set_cons_succ, List.set_cons_zero]
  generalize u1.alloc (.cells #[.int .i64 a.mem, .string a.bill, .int .i64 a.cham, .bool a.yes, .int .i64 a.idx, .slice A1a a.sig.length e1a, .slice A2a a.path.length e2a, .int .i64 d.mem, .string d.bill, .int .i64 d.cham, .bool d.yes, .int .i64 d.idx, .slice A1d d.sig.length e1d, .slice A2d d.path.length e2d] 33) = u2 at *
  refine wpAnyL_one (i := 4) (by decide +kernel) (by rfl) (fun K hK => ?_)
  rw [if_pos (by rfl)]
  go_simp
  refine (head1_of g1 A e _ 2 2 [a, d] rfl (by decide) (fun x hx => by simp only [List.mem_cons, List.not_mem_nil, or_false] at hx; rcases hx with rfl | rfl <;> first | exact Z.out.1 | exact Z.out.2.2.2.2) 12 HX.out.e1 _ hHeld.env (OwnV.row (hHeld.own.own _ (List.mem_cons_of_mem _ (List.mem_cons_of_mem _ (List.mem_cons_of_mem _ (List.mem_cons_of_mem _ (List.mem_cons_of_mem _ (List.mem_cons_self ..)))))))) hHeld.key hV).mono ?_
  rintro r u3 ⟨rfl, hbn⟩
  replace hHeld := hHeld.below hbn
  replace hNd := hNd.keep hbn
  replace hbb := bnext hbb hbn
  clear hbn hV
  refine hK.out _ _ (Or.inr hHeld) ?_
  clear hK K
  try simp only [Act.put, List.getElem_toArray, List.getElem_cons_succ, List.getElem_cons_zero, List.setIfInBounds_toArray, List.set_cons_succ, List.set_cons_zero]
  refine wpAnyL_take (i := 5) (f0 := 40) (v := ?_) rfl (by decide +kernel) (by decide +kernel) (by decide +kernel) (by decide +kernel) (by decide +kernel) (fun _ _ _ h => h) (Or.inl ⟨by rfl, ?_⟩) hHeld ?_
  rotate_left
  · intro wS hS; go_simp; (try with_reducible rfl)
  simp only [Act.put, List.getElem_toArray, List.getElem_cons_succ, List.getElem_cons_zero, List.setIfInBounds_toArray, List.set_cons_succ, List.set_cons_zero]
  refine wpAnyL_take (i := 6) (f0 := 40) (v := ?_) rfl (by decide +kernel) (by decide +kernel) (by decide +kernel) (by decide +kernel) (by decide +kernel) (fun _ _ _ h => h) (Or.inl ⟨by rfl, ?_⟩) hHeld ?_
  rotate_left
  · intro wS hS; go_simp; (try with_reducible rfl)
  simp only [Act.put, List.getElem_toArray, List.getElem_cons_succ, List.getElem_cons_zero, List.setIfInBounds_toArray, List.set_cons_succ, List.set_cons_zero]
  refine wpAnyL_take (i := 7) (f0 := 40) (v := ?_) rfl (by decide +kernel) (by decide +kernel) (by decide +kernel) (by decide +kernel) (by decide +kernel) (fun _ _ _ h => h) (Or.inl ⟨by rfl, ?_⟩) hHeld ?_
  rotate_left
  · intro wS hS; go_simp; (try with_reducible rfl)
  simp only [Act.put, List.getElem_toArray, List.getElem_cons_succ, List.getElem_cons_zero, List.setIfInBounds_toArray, List.set_cons_succ, List.set_cons_zero]
  refine wpAnyL_take (i := 8) (f0 := 40) (v := ?_) rfl (by decide +kernel) (by decide +kernel) (by decide +kernel) (by decide +kernel) (by decide +kernel) (fun _ _ _ h => h) (Or.inl ⟨by rfl, ?_⟩) hHeld ?_
  rotate_left
  · intro wS hS; obtain ⟨p0, p1, p2, p3, p4, p5, p6⟩ := cells7 (OwnV.row (hS.own.own _ (List.mem_cons_of_mem _ (List.mem_cons_of_mem _ (List.mem_cons_of_mem _ (List.mem_cons_of_mem _ (List.mem_cons_self ..))))))); go_simp; (try with_reducible rfl)
  simp only [Act.put, List.getElem_toArray, List.getElem_cons_succ, List.getElem_cons_zero, List.setIfInBounds_toArray, List.set_cons_succ, List.set_cons_zero]
  refine wpAnyL_take (i := 9) (f0 := 40) (v := ?_) rfl (by decide +kernel) (by decide +kernel) (by decide +kernel) (by decide +kernel) (by decide +kernel) (fun _ _ _ h => h) (Or.inl ⟨by rfl, ?_⟩) hHeld ?_
  rotate_left
  · intro wS hS; obtain ⟨p0, p1, p2, p3, p4, p5, p6⟩ := cells7 (OwnV.row (hS.own.own _ (List.mem_cons_of_mem _ (List.mem_cons_of_mem _ (List.mem_cons_of_mem _ (List.mem_cons_self ..)))))); go_simp; (try with_reducible rfl)
  simp only [Act.put, List.getElem_toArray, List.getElem_cons_succ, List.getElem_cons_zero, List.setIfInBounds_toArray, List.set_cons_succ, List.set_cons_zero]
  refine wpAnyL_take (i := 10) (f0 := 40) (v := ?_) rfl (by decide +kernel) (by decide +kernel) (by decide +kernel) (by decide +kernel) (by decide +kernel) (fun _ _ _ h => h) (Or.inl ⟨by rfl, ?_⟩) hHeld ?_
  rotate_left
  · intro wS hS; obtain ⟨p0, p1, p2, p3, p4, p5, p6⟩ := cells7 (OwnV.row (hS.own.own _ (List.mem_cons_of_mem _ (List.mem_cons_of_mem _ (List.mem_cons_self ..))))); go_simp; (try with_reducible rfl)
  simp only [Act.put, List.getElem_toArray, List.getElem_cons_succ, List.getElem_cons_zero, List.setIfInBounds_toArray, List.set_cons_succ, List.set_cons_zero]
  refine wpAnyL_one (i := 11) (by decide +kernel) (by rfl) (fun K hK => ?_)
  rw [if_pos (by rfl)]
  go_simp
  have hV := Vts.lit u3 [⟨a, A1a, A2a, e1a, e2a⟩, ⟨b, A1b, A2b, e1b, e2b⟩, ⟨c, A1c, A2c, e1c, e2c⟩] #[.int .i64 a.mem, .string a.bill, .int .i64 a.cham, .bool a.yes, .int .i64 a.idx, .slice A1a a.sig.length e1a, .slice A2a a.path.length e2a, .int .i64 b.mem, .string b.bill, .int .i64 b.cham, .bool b.yes, .int .i64 b.idx, .slice A1b b.sig.length e1b, .slice A2b b.path.length e2b, .int .i64 c.mem, .string c.bill, .int .i64 c.cham, .bool c.yes, .int .i64 c.idx, .slice A1c c.sig.length e1c, .slice A2c c.path.length e2c] 33 rfl (fun x hx => by simp only [List.mem_cons, List.not_mem_nil, or_false] at hx; rcases hx with rfl | rfl | rfl <;> first | exact hHeld.vin _ (List.mem_cons_of_mem _ (List.mem_cons_of_mem _ (List.mem_cons_of_mem _ (List.mem_cons_of_mem _ (List.mem_cons_self ..))))) | exact hHeld.vin _ (List.mem_cons_of_mem _ (List.mem_cons_of_mem _ (List.mem_cons_of_mem _ (List.mem_cons_self ..)))) | exact hHeld.vin _ (List.mem_cons_of_mem _ (List.mem_cons_of_mem _ (List.mem_cons_self ..))))
  have hbn := Below.news (Below.refl u3.heap.size u3) (.cells #[.int .i64 a.mem, .string a.bill, .int .i64 a.cham, .bool a.yes, .int .i64 a.idx, .slice A1a a.sig.length e1a, .slice A2a a.path.length e2a, .int .i64 b.mem, .string b.bill, .int .i64 b.cham, .bool b.yes, .int .i64 b.idx, .slice A1b b.sig.length e1b, .slice A2b b.path.length e2b, .int .i64 c.mem, .string c.bill, .int .i64 c.cham, .bool c.yes, .int .i64 c.idx, .slice A1c c.sig.length e1c, .slice A2c c.path.length e2c] 33)
  replace hHeld := hHeld.below hbn
  replace hNd := hNd.keep hbn
  replace hbb := bnext hbb hbn
  clear hbn
  refine hK.out _ _ (Or.inr hHeld) ?_
  clear hK K
  try simp only [Act.put, List.getElem_toArray, List.getElem_cons_succ, List.getElem_cons_zero, List.setIfInBounds_toArray, List.set_cons_succ, List.set_cons_zero]
  generalize u3.alloc (.cells #[.int .i64 a.mem, .string a.bill, .int .i64 a.cham, .bool a.yes, .int .i64 a.idx, .slice A1a a.sig.length e1a, .slice A2a a.path.length e2a, .int .i64 b.mem, .string b.bill, .int .i64 b.cham, .bool b.yes, .int .i64 b.idx, .slice A1b b.sig.length e1b, .slice A2b b.path.length e2b, .int .i64 c.mem, .string c.bill, .int .i64 c.cham, .bool c.yes, .int .i64 c.idx, .slice A1c c.sig.length e1c, .slice A2c c.path.length e2c] 33) = u4 at *
  refine wpAnyL_one (i := 12) (by decide +kernel) (by rfl) (fun K hK => ?_)
  rw [if_pos (by rfl)]
  go_simp
  refine (head1_of g1 A e _ 3 3 [a, b, c] rfl (by decide) (fun x hx => by simp only [List.mem_cons, List.not_mem_nil, or_false] at hx; rcases hx with rfl | rfl | rfl <;> first | exact Z.out.1 | exact Z.out.2.1 | exact Z.out.2.2.1) 0 HX.out.e2 _ hHeld.env (OwnV.row (hHeld.own.own _ (List.mem_cons_of_mem _ (List.mem_cons_of_mem _ (List.mem_cons_of_mem _ (List.mem_cons_of_mem _ (List.mem_cons_of_mem _ (List.mem_cons_self ..)))))))) hHeld.key hV).mono ?_
  rintro r u5 ⟨rfl, hbn⟩
  replace hHeld := hHeld.below hbn
  replace hNd := hNd.keep hbn
  replace hbb := bnext hbb hbn
  clear hbn hV
  refine hK.out _ _ (Or.inr hHeld) ?_
  clear hK K
  try simp only [Act.put, List.getElem_toArray, List.getElem_cons_succ, List.getElem_cons_zero, List.setIfInBounds_toArray, List.set_cons_succ, List.set_cons_zero]
  refine wpAnyL_take (i := 13) (f0 := 40) (v := ?_) rfl (by decide +kernel) (by decide +kernel) (by decide +kernel) (by decide +kernel) (by decide +kernel) (fun _ _ _ h => h) (Or.inl ⟨by rfl, ?_⟩) hHeld ?_
  rotate_left
  · intro wS hS; go_simp; (try with_reducible rfl)
  simp only [Act.put, List.getElem_toArray, List.getElem_cons_succ, List.getElem_cons_zero, List.setIfInBounds_toArray, List.set_cons_succ, List.set_cons_zero]
  refine wpAnyL_take (i := 14) (f0 := 40) (v := ?_) rfl (by decide +kernel) (by decide +kernel) (by decide +kernel) (by decide +kernel) (by decide +kernel) (fun _ _ _ h => h) (Or.inl ⟨by rfl, ?_⟩) hHeld ?_
  rotate_left
  · intro wS hS; go_simp; (try with_reducible rfl)
  simp only [Act.put, List.getElem_toArray, List.getElem_cons_succ, List.getElem_cons_zero, List.setIfInBounds_toArray, List.set_cons_succ, List.set_cons_zero]
  refine wpAnyL_take (i := 15) (f0 := 40) (v := ?_) rfl (by decide +kernel) (by decide +kernel) (by decide +kernel) (by decide +kernel) (by decide +kernel) (fun _ _ _ h => h) (Or.inl ⟨by rfl, ?_⟩) hHeld ?_
  rotate_left
  · intro wS hS; go_simp; (try with_reducible rfl)
  simp only [Act.put, List.getElem_toArray, List.getElem_cons_succ, List.getElem_cons_zero, List.setIfInBounds_toArray, List.set_cons_succ, List.set_cons_zero]
  refine wpAnyL_take (i := 16) (f0 := 40) (v := ?_) rfl (by decide +kernel) (by decide +kernel) (by decide +kernel) (by decide +kernel) (by decide +kernel) (fun _ _ _ h => h) (Or.inl ⟨by rfl, ?_⟩) hHeld ?_
  rotate_left
  · intro wS hS; go_simp; (try with_reducible rfl)
  simp only [Act.put, List.getElem_toArray, List.getElem_cons_succ, List.getElem_cons_zero, List.setIfInBounds_toArray, List.set_cons_succ, List.set_cons_zero]
  refine wpAnyL_take (i := 17) (f0 := 40) (v := ?_) rfl (by decide +kernel) (by decide +kernel) (by decide +kernel) (by decide +kernel) (by decide +kernel) (fun _ _ _ h => h) (Or.inl ⟨by rfl, ?_⟩) hHeld ?_
  rotate_left
  · intro wS hS; obtain ⟨p0, p1, p2, p3, p4, p5, p6⟩ := cells7 (OwnV.row (hS.own.own _ (List.mem_cons_of_mem _ (List.mem_cons_of_mem _ (List.mem_cons_of_mem _ (List.mem_cons_of_mem _ (List.mem_cons_self ..))))))); go_simp; (try with_reducible rfl)
  simp only [Act.put, List.getElem_toArray, List.getElem_cons_succ, List.getElem_cons_zero, List.setIfInBounds_toArray, List.set_cons_succ, List.set_cons_zero]
  refine wpAnyL_take (i := 18) (f0 := 40) (v := ?_) rfl (by decide +kernel) (by decide +kernel) (by decide +kernel) (by decide +kernel) (by decide +kernel) (fun _ _ _ h => h) (Or.inl ⟨by rfl, ?_⟩) hHeld ?_
  rotate_left
  · intro wS hS; obtain ⟨p0, p1, p2, p3, p4, p5, p6⟩ := cells7 (OwnV.row (hS.own.own _ (List.mem_cons_of_mem _ (List.mem_cons_of_mem _ (List.mem_cons_of_mem _ (List.mem_cons_of_mem _ (List.mem_cons_self ..))))))); go_simp; (try with_reducible rfl)
  simp only [Act.put, List.getElem_toArray, List.getElem_cons_succ, List.getElem_cons_zero, List.setIfInBounds_toArray, List.set_cons_succ, List.set_cons_zero]
  refine wpAnyL_one (i := 19) (by decide +kernel) (by rfl) (fun K hK => ?_)
  rw [if_pos (by rfl)]
  go_simp
  have hV := Vts.lit u5 [⟨a, A1a, A2a, e1a, e2a⟩, ⟨a, A1a, A2a, e1a, e2a⟩] #[.int .i64 a.mem, .string a.bill, .int .i64 a.cham, .bool a.yes, .int .i64 a.idx, .slice A1a a.sig.length e1a, .slice A2a a.path.length e2a, .int .i64 a.mem, .string a.bill, .int .i64 a.cham, .bool a.yes, .int .i64 a.idx, .slice A1a a.sig.length e1a, .slice A2a a.path.length e2a] 33 rfl (fun x hx => by simp only [List.mem_cons, List.not_mem_nil, or_false] at hx; rcases hx with rfl | rfl <;> first | exact hHeld.vin _ (List.mem_cons_of_mem _ (List.mem_cons_of_mem _ (List.mem_cons_of_mem _ (List.mem_cons_of_mem _ (List.mem_cons_self ..))))))
  have hbn := Below.news (Below.refl u5.heap.size u5) (.cells #[.int .i64 a.mem, .string a.bill, .int .i64 a.cham, .bool a.yes, .int .i64 a.idx, .slice A1a a.sig.length e1a, .slice A2a a.path.length e2a, .int .i64 a.mem, .string a.bill, .int .i64 a.cham, .bool a.yes, .int .i64 a.idx, .slice A1a a.sig.length e1a, .slice A2a a.path.length e2a] 33)
  replace hHeld := hHeld.below hbn
  replace hNd := hNd.keep hbn
  replace hbb := bnext hbb hbn
  clear hbn
  refine hK.out _ _ (Or.inr hHeld) ?_
  clear hK K
  try simp only [Act.put, List.getElem_toArray, List.getElem_cons_succ, List.getElem_cons_zero, List.setIfInBounds_toArray, List.set_cons_succ, List.set_cons_zero]
  generalize u5.alloc (.cells #[.int .i64 a.mem, .string a.bill, .int .i64 a.cham, .bool a.yes, .int .i64 a.idx, .slice A1a a.sig.length e1a, .slice A2a a.path.length e2a, .int .i64 a.mem, .string a.bill, .int .i64 a.cham, .bool a.yes, .int .i64 a.idx, .slice A1a a.sig.length e1a, .slice A2a a.path.length e2a] 33) = u6 at *
  refine wpAnyL_one (i := 20) (by decide +kernel) (by rfl) (fun K hK => ?_)
  rw [if_pos (by rfl)]
  go_simp
  refine (head1_of g1 A e _ 2 2 [a, a] rfl (by decide) (fun x hx => by simp only [List.mem_cons, List.not_mem_nil, or_false] at hx; rcases hx with rfl | rfl <;> first | exact Z.out.1) 20 HX.out.e3 _ hHeld.env (OwnV.row (hHeld.own.own _ (List.mem_cons_of_mem _ (List.mem_cons_of_mem _ (List.mem_cons_of_mem _ (List.mem_cons_of_mem _ (List.mem_cons_of_mem _ (List.mem_cons_self ..)))))))) hHeld.key hV).mono ?_
  rintro r u7 ⟨rfl, hbn⟩
  replace hHeld := hHeld.below hbn
  replace hNd := hNd.keep hbn
  replace hbb := bnext hbb hbn
  clear hbn hV
  refine hK.out _ _ (Or.inr hHeld) ?_
  clear hK K
  try simp only [Act.put, List.getElem_toArray, List.getElem_cons_succ, List.getElem_cons_zero, List.setIfInBounds_toArray, List.set_cons_succ, List.set_cons_zero]
  refine wpAnyL_take (i := 21) (f0 := 40) (v := ?_) rfl (by decide +kernel) (by decide +kernel) (by decide +kernel) (by decide +kernel) (by decide +kernel) (fun _ _ _ h => h) (Or.inl ⟨by rfl, ?_⟩) hHeld ?_
  rotate_left
  · intro wS hS; go_simp; (try with_reducible rfl)
  simp only [Act.put, List.getElem_toArray, List.getElem_cons_succ, List.getElem_cons_zero, List.setIfInBounds_toArray, List.set_cons_succ, List.set_cons_zero]
  refine wpAnyL_take (i := 22) (f0 := 40) (v := ?_) rfl (by decide +kernel) (by decide +kernel) (by decide +kernel) (by decide +kernel) (by decide +kernel) (fun _ _ _ h => h) (Or.inl ⟨by rfl, ?_⟩) hHeld ?_
  rotate_left
  · intro wS hS; go_simp; (try with_reducible rfl)
  simp only [Act.put, List.getElem_toArray, List.getElem_cons_succ, List.getElem_cons_zero, List.setIfInBounds_toArray, List.set_cons_succ, List.set_cons_zero]
  refine wpAnyL_take (i := 23) (f0 := 40) (v := ?_) rfl (by decide +kernel) (by decide +kernel) (by decide +kernel) (by decide +kernel) (by decide +kernel) (fun _ _ _ h => h) (Or.inl ⟨by rfl, ?_⟩) hHeld ?_
  rotate_left
  · intro wS hS; go_simp; (try with_reducible rfl)
  simp only [Act.put, List.getElem_toArray, List.getElem_cons_succ, List.getElem_cons_zero, List.setIfInBounds_toArray, List.set_cons_succ, List.set_cons_zero]
  refine wpAnyL_take (i := 24) (f0 := 40) (v := ?_) rfl (by decide +kernel) (by decide +kernel) (by decide +kernel) (by decide +kernel) (by decide +kernel) (fun _ _ _ h => h) (Or.inl ⟨by rfl, ?_⟩) hHeld ?_
  rotate_left
  · intro wS hS; go_simp; (try with_reducible rfl)
  simp only [Act.put, List.getElem_toArray, List.getElem_cons_succ, List.getElem_cons_zero, List.setIfInBounds_toArray, List.set_cons_succ, List.set_cons_zero]
  refine wpAnyL_take (i := 25) (f0 := 40) (v := ?_) rfl (by decide +kernel) (by decide +kernel) (by decide +kernel) (by decide +kernel) (by decide +kernel) (fun _ _ _ h => h) (Or.inl ⟨by rfl, ?_⟩) hHeld ?_
  rotate_left
  · intro wS hS; obtain ⟨p0, p1, p2, p3, p4, p5, p6⟩ := cells7 (OwnV.row (hS.own.own _ (List.mem_cons_of_mem _ (List.mem_cons_of_mem _ (List.mem_cons_of_mem _ (List.mem_cons_of_mem _ (List.mem_cons_self ..))))))); go_simp; (try with_reducible rfl)
  simp only [Act.put, List.getElem_toArray, List.getElem_cons_succ, List.getElem_cons_zero, List.setIfInBounds_toArray, List.set_cons_succ, List.set_cons_zero]
  refine wpAnyL_take (i := 26) (f0 := 40) (v := ?_) rfl (by decide +kernel) (by decide +kernel) (by decide +kernel) (by decide +kernel) (by decide +kernel) (fun _ _ _ h => h) (Or.inl ⟨by rfl, ?_⟩) hHeld ?_
  rotate_left
  · intro wS hS; obtain ⟨p0, p1, p2, p3, p4, p5, p6⟩ := cells7 (OwnV.row (hS.own.own _ (List.mem_cons_of_mem _ (List.mem_cons_self ..)))); go_simp; (try with_reducible rfl)
  simp only [Act.put, List.getElem_toArray, List.getElem_cons_succ, List.getElem_cons_zero, List.setIfInBounds_toArray, List.set_cons_succ, List.set_cons_zero]
  refine wpAnyL_take (i := 27) (f0 := 40) (v := ?_) rfl (by decide +kernel) (by decide +kernel) (by decide +kernel) (by decide +kernel) (by decide +kernel) (fun _ _ _ h => h) (Or.inl ⟨by rfl, ?_⟩) hHeld ?_
  rotate_left
  · intro wS hS; obtain ⟨p0, p1, p2, p3, p4, p5, p6⟩ := cells7 (OwnV.row (hS.own.own _ (List.mem_cons_of_mem _ (List.mem_cons_of_mem _ (List.mem_cons_of_mem _ (List.mem_cons_self ..)))))); go_simp; (try with_reducible rfl)
  simp only [Act.put, List.getElem_toArray, List.getElem_cons_succ, List.getElem_cons_zero, List.setIfInBounds_toArray, List.set_cons_succ, List.set_cons_zero]
  refine wpAnyL_one (i := 28) (by decide +kernel) (by rfl) (fun K hK => ?_)
  rw [if_pos (by rfl)]
  go_simp
  have hV := Vts.lit u7 [⟨a, A1a, A2a, e1a, e2a⟩, ⟨o, A1o, A2o, e1o, e2o⟩, ⟨b, A1b, A2b, e1b, e2b⟩] #[.int .i64 a.mem, .string a.bill, .int .i64 a.cham, .bool a.yes, .int .i64 a.idx, .slice A1a a.sig.length e1a, .slice A2a a.path.length e2a, .int .i64 o.mem, .string o.bill, .int .i64 o.cham, .bool o.yes, .int .i64 o.idx, .slice A1o o.sig.length e1o, .slice A2o o.path.length e2o, .int .i64 b.mem, .string b.bill, .int .i64 b.cham, .bool b.yes, .int .i64 b.idx, .slice A1b b.sig.length e1b, .slice A2b b.path.length e2b] 33 rfl (fun x hx => by simp only [List.mem_cons, List.not_mem_nil, or_false] at hx; rcases hx with rfl | rfl | rfl <;> first | exact hHeld.vin _ (List.mem_cons_of_mem _ (List.mem_cons_of_mem _ (List.mem_cons_of_mem _ (List.mem_cons_of_mem _ (List.mem_cons_self ..))))) | exact hHeld.vin _ (List.mem_cons_of_mem _ (List.mem_cons_self ..)) | exact hHeld.vin _ (List.mem_cons_of_mem _ (List.mem_cons_of_mem _ (List.mem_cons_of_mem _ (List.mem_cons_self ..)))))
  have hbn := Below.news (Below.refl u7.heap.size u7) (.cells #[.int .i64 a.mem, .string a.bill, .int .i64 a.cham, .bool a.yes, .int .i64 a.idx, .slice A1a a.sig.length e1a, .slice A2a a.path.length e2a, .int .i64 o.mem, .string o.bill, .int .i64 o.cham, .bool o.yes, .int .i64 o.idx, .slice A1o o.sig.length e1o, .slice A2o o.path.length e2o, .int .i64 b.mem, .string b.bill, .int .i64 b.cham, .bool b.yes, .int .i64 b.idx, .slice A1b b.sig.length e1b, .slice A2b b.path.length e2b] 33)
  replace hHeld := hHeld.below hbn
  replace hNd := hNd.keep hbn
  replace hbb := bnext hbb hbn
  clear hbn
  refine hK.out _ _ (Or.inr hHeld) ?_
  clear hK K
  try simp only [Act.put, List.getElem_toArray, List.getElem_cons_succ, List.getElem_cons_zero, List.setIfInBounds_toArray, List.set_cons_succ, List.set_cons_zero]
  generalize u7.alloc (.cells #[.int .i64 a.mem, .string a.bill, .int .i64 a.cham, .bool a.yes, .int .i64 a.idx, .slice A1a a.sig.length e1a, .slice A2a a.path.length e2a, .int .i64 o.mem, .string o.bill, .int .i64 o.cham, .bool o.yes, .int .i64 o.idx, .slice A1o o.sig.length e1o, .slice A2o o.path.length e2o, .int .i64 b.mem, .string b.bill, .int .i64 b.cham, .bool b.yes, .int .i64 b.idx, .slice A1b b.sig.length e1b, .slice A2b b.path.length e2b] 33) = u8 at *
  refine wpAnyL_one (i := 29) (by decide +kernel) (by rfl) (fun K hK => ?_)
  rw [if_pos (by rfl)]
  go_simp
  refine (head1_of g1 A e _ 3 3 [a, o, b] rfl (by decide) (fun x hx => by simp only [List.mem_cons, List.not_mem_nil, or_false] at hx; rcases hx with rfl | rfl | rfl <;> first | exact Z.out.1 | exact Z.out.2.2.2.1 | exact Z.out.2.1) 0 HX.out.e4 _ hHeld.env (OwnV.row (hHeld.own.own _ (List.mem_cons_of_mem _ (List.mem_cons_of_mem _ (List.mem_cons_of_mem _ (List.mem_cons_of_mem _ (List.mem_cons_of_mem _ (List.mem_cons_self ..)))))))) hHeld.key hV).mono ?_
  rintro r u9 ⟨rfl, hbn⟩
  replace hHeld := hHeld.below hbn
  replace hNd := hNd.keep hbn
  replace hbb := bnext hbb hbn
  clear hbn hV
  refine hK.out _ _ (Or.inr hHeld) ?_
  clear hK K
  try simp only [Act.put, List.getElem_toArray, List.getElem_cons_succ, List.getElem_cons_zero, List.setIfInBounds_toArray, List.set_cons_succ, List.set_cons_zero]
  refine wpAnyL_take (i := 30) (f0 := 40) (v := ?_) rfl (by decide +kernel) (by decide +kernel) (by decide +kernel) (by decide +kernel) (by decide +kernel) (fun _ _ _ h => h) (Or.inl ⟨by rfl, ?_⟩) hHeld ?_
  rotate_left
  · intro wS hS; go_simp; (try with_reducible rfl)
  simp only [Act.put, List.getElem_toArray, List.getElem_cons_succ, List.getElem_cons_zero, List.setIfInBounds_toArray, List.set_cons_succ, List.set_cons_zero]
  refine wpAnyL_take (i := 31) (f0 := 40) (v := ?_) rfl (by decide +kernel) (by decide +kernel) (by decide +kernel) (by decide +kernel) (by decide +kernel) (fun _ _ _ h => h) (Or.inl ⟨by rfl, ?_⟩) hHeld ?_
  rotate_left
  · intro wS hS; go_simp; (try with_reducible rfl)
  simp only [Act.put, List.getElem_toArray, List.getElem_cons_succ, List.getElem_cons_zero, List.setIfInBounds_toArray, List.set_cons_succ, List.set_cons_zero]
  refine wpAnyL_done (by decide +kernel) ?_ _
  refine NoPanic.normal ?_
  go_wp2_with fail
  refine (ints_any Ab _ _ _ 2 2 [1, 2] [1, 2] rfl rfl true (by decide) _ (by decide) (by decide) (hNd.keep (Below.news (Below.refl _ _) _)) (Nums.lit _ _ _ _ rfl)).mono ?_
  rintro r wz ⟨rfl, hbz⟩
  go_wp2
  go_ret
  exact ⟨rfl, bnext (bnext hbb (Below.news (Below.refl _ _) _)) hbz⟩
end Go.Proofs.YtgncahnkkpjdpaaDoor
/- Proper of the reference of layer 39. No conditions but those that each theorem states. -/
namespace Go.Proofs.YtgncahnkkpjdpaaDoor
open Go Go.RowKit Go.Sort Go.Maps
theorem properB_split (ch q nu de : Int) (K : List ByteArray) (n : Nat) (hn : K.length = n) : Dg.properB ⟨ch, K, q, nu, de⟩ = true ↔ ((ch = 1 ∨ ch = 2) ∧ 1 ≤ n ∧ n ≤ 60 ∧ 1 ≤ q ∧ q ≤ (n : Int) ∧ 0 ≤ nu ∧ nu < de ∧ de ≤ 60) ∧ allDig K = true := by
  subst hn
  unfold Dg.properB Dg.ratioB
  simp only [Bool.and_eq_true, decide_eq_true_eq]
  constructor
  · rintro ⟨h1, h2, h3, h4, h5, ⟨h6, h7, h8⟩, h9⟩
    exact ⟨⟨h1, h2, h3, h4, h5, h6, h7, h8⟩, h9⟩
  · rintro ⟨⟨h1, h2, h3, h4, h5, h6, h7, h8⟩, h9⟩
    exact ⟨h1, h2, h3, h4, h5, ⟨h6, h7, h8⟩, h9⟩
theorem allDig_whole {K : List ByteArray} {n : Nat} (hn : K.length = n) (h : allDig (K.take n) = true) : allDig K = true := by
  subst hn; rw [List.take_length] at h; exact h
set_option maxRecDepth 100000 in
set_option maxHeartbeats 8000000 in
theorem rproper_of (ch q nu de : Int) (A : Option Addr) (c n : Nat) (K : List ByteArray) (R : Bool) (hR : Dg.properB ⟨ch, K, q, nu, de⟩ = R) (w : World) (hn : K.length = n) (bn : n ≤ 1099511627776) (hz : ∀ s ∈ K, s.size ≤ 4611686018427387904) (hS : Strs w w.heap.size A K) :
    Calls Tryd.prog 20 #[.agg #[.int .i64 ch, .slice A n c, .int .i64 q, .int .i64 nu, .int .i64 de]] w fun e w' => e = .returned (.bool R) ∧ Below w.heap.size w w' := by
  have HS := hide (properB_split ch q nu de K n hn)
  have HR := hide hR; have HZ := hide hz; have HN := hide hn
  clear hR hz hn
  have hb0 := Below.news (Below.refl w.heap.size w) (.cells #[.int .i64 ch, .slice A n c, .int .i64 q, .int .i64 nu, .int .i64 de] 24)
  have hS0 := keepS hS hb0
  have no : ∀ P : Prop, (¬ P) → ((ch = 1 ∨ ch = 2) ∧ 1 ≤ n ∧ n ≤ 60 ∧ 1 ≤ q ∧ q ≤ (n : Int) ∧ 0 ≤ nu ∧ nu < de ∧ de ≤ 60 → P) → R = false := fun P hP hi => by
    cases hR : R with
    | false => rfl
    | true => exact absurd (hi (HS.out.1 (HR.out.trans hR)).1) hP
  have No := hide no; clear no
  go_enter Tryd.func20, Tryd.ntmps20
  have hch : ((ch != 1) = false ∧ (ch = 1 ∨ ch = 2)) ∨ ((ch != 1) = true ∧ (ch != 2) = false ∧ (ch = 1 ∨ ch = 2)) ∨ ((ch != 1) = true ∧ (ch != 2) = true ∧ ¬ (ch = 1 ∨ ch = 2)) := by
    by_cases e1 : ch = 1
    · subst e1; exact Or.inl ⟨rfl, Or.inl rfl⟩
    · by_cases e2 : ch = 2
      · subst e2; exact Or.inr (Or.inl ⟨rfl, rfl, Or.inr rfl⟩)
      · exact Or.inr (Or.inr ⟨bne_iff_ne.2 e1, bne_iff_ne.2 e2, fun h => h.elim e1 e2⟩)
  have noFalse : ∀ {P : Prop}, (¬ P) → ((ch = 1 ∨ ch = 2) ∧ 1 ≤ n ∧ n ≤ 60 ∧ 1 ≤ q ∧ q ≤ (n : Int) ∧ 0 ≤ nu ∧ nu < de ∧ de ≤ 60 → P) → R = false := fun {P} h1 h2 => No.out P h1 h2
  rcases hch with ⟨c1, cch⟩ | ⟨c1, c2, cch⟩ | ⟨c1, c2, cch⟩
  rotate_left 2
  · obtain rfl : R = false := noFalse cch (fun h => h.1)
    clear HS HR No noFalse
    go_wp2
    go_ret
    exact ⟨rfl, hb0⟩
  all_goals (
    by_cases h0 : 1 ≤ n
    rotate_left
    · (have hRf : R = false := noFalse h0 (fun h => h.2.1)
       subst hRf
       have d0_0 : decide ((n : Int) < 1) = true := dec_t (by omega)
       have d0_1 : decide (n < 1) = true := dec_t (by omega)
       clear HS HR No noFalse h0
       go_wp2
       go_ret
       exact ⟨rfl, hb0⟩)
    have d0_0 : decide ((n : Int) < 1) = false := dec_f (by omega)
    have d0_1 : decide (n < 1) = false := dec_f (by omega)
    by_cases h1 : n ≤ 60
    rotate_left
    · (have hRf : R = false := noFalse h1 (fun h => h.2.2.1)
       subst hRf
       have d1_0 : decide ((60 : Int) < (n : Int)) = true := dec_t (by omega)
       have d1_1 : decide (60 < n) = true := dec_t (by omega)
       clear HS HR No noFalse h1
       go_wp2
       go_ret
       exact ⟨rfl, hb0⟩)
    have d1_0 : decide ((60 : Int) < (n : Int)) = false := dec_f (by omega)
    have d1_1 : decide (60 < n) = false := dec_f (by omega)
    by_cases h2 : 1 ≤ q
    rotate_left
    · (have hRf : R = false := noFalse h2 (fun h => h.2.2.2.1)
       subst hRf
       have d2_0 : decide (q < 1) = true := dec_t (by omega)
       clear HS HR No noFalse h2
       go_wp2
       go_ret
       exact ⟨rfl, hb0⟩)
    have d2_0 : decide (q < 1) = false := dec_f (by omega)
    by_cases h3 : q ≤ (n : Int)
    rotate_left
    · (have hRf : R = false := noFalse h3 (fun h => h.2.2.2.2.1)
       subst hRf
       have d3_0 : decide ((n : Int) < q) = true := dec_t (by omega)
       clear HS HR No noFalse h3
       go_wp2
       go_ret
       exact ⟨rfl, hb0⟩)
    have d3_0 : decide ((n : Int) < q) = false := dec_f (by omega)
    by_cases h4 : 0 ≤ nu
    rotate_left
    · (have hRf : R = false := noFalse h4 (fun h => h.2.2.2.2.2.1)
       subst hRf
       have d4_0 : decide (nu < 0) = true := dec_t (by omega)
       clear HS HR No noFalse h4
       go_wp2
       go_ret
       exact ⟨rfl, hb0⟩)
    have d4_0 : decide (nu < 0) = false := dec_f (by omega)
    by_cases h5 : nu < de
    rotate_left
    · (have hRf : R = false := noFalse h5 (fun h => h.2.2.2.2.2.2.1)
       subst hRf
       have d5_0 : decide (de ≤ nu) = true := dec_t (by omega)
       clear HS HR No noFalse h5
       go_wp2
       go_ret
       exact ⟨rfl, hb0⟩)
    have d5_0 : decide (de ≤ nu) = false := dec_f (by omega)
    by_cases h6 : de ≤ 60
    rotate_left
    · (have hRf : R = false := noFalse h6 (fun h => h.2.2.2.2.2.2.2)
       subst hRf
       have d6_0 : decide ((60 : Int) < de) = true := dec_t (by omega)
       clear HS HR No noFalse h6
       go_wp2
       go_ret
       exact ⟨rfl, hb0⟩)
    have d6_0 : decide ((60 : Int) < de) = false := dec_f (by omega)
    have key := hide (show R = allDig K from by
      rw [← HR.out]
      cases ha : allDig K with
      | true => exact HS.out.2 ⟨⟨cch, h0, h1, h2, h3, h4, h5, h6⟩, ha⟩
      | false => cases hp : Dg.properB ⟨ch, K, q, nu, de⟩ with
        | false => rfl
        | true => rw [(HS.out.1 hp).2] at ha; exact ha)
    clear HS HR No noFalse h1 h2 h3 h4 h5 h6
    go_wp2
    clear c1 d0_0 d0_1 d1_0 d1_1 d2_0 d3_0 d4_0 d5_0 d6_0
    have p1 : (w.alloc (.cells #[.int .i64 ch, .slice A n c, .int .i64 q, .int .i64 nu, .int .i64 de] 24)).cell? ⟨w.heap.size, 1, none⟩ = some (.slice A n c) := by rw [cell_of_row _ _ _ _ _ (0, 0) (heap_alloc_new _ _)]; rfl
    generalize w.alloc (.cells #[.int .i64 ch, .slice A n c, .int .i64 q, .int .i64 nu, .int .i64 de] 24) = W0 at *
    generalize hg : w.heap.size = g at *
    go_loopw [4] (fun iv wr => ∃ k : Nat, k ≤ n ∧ iv = .int .i64 k ∧ Hid (allDig (K.take k) = true) ∧ Below W0.heap.size W0 wr) (fun iv _ => n - (intOf iv).toNat)
    case atStart => exact ⟨0, by omega, rfl, rfl, Below.refl _ _⟩
    case round =>
      obtain ⟨k, hk, rfl, hall, hbr⟩ := hrel
      replace p1 := (hbr.cell (block_lt_of_cell p1)).trans p1
      by_cases hlt : k < n
      · have hkl : k < K.length := by rw [HN.out]; exact hlt
        obtain ⟨b, off, rfl, hbl, hcell⟩ := (keepS hS0 hbr).get hkl
        have hsz := HZ.out K[k] (List.getElem_mem hkl)
        have hts := hide (List.take_succ_eq_append_getElem hkl)
        have hm := hide (List.getElem_mem hkl)
        generalize K[k] = x at *
        have hk0 : (0 : Int) ≤ (k : Int) := by omega
        have hkn : (k : Int) < (n : Int) := by omega
        go_wp2_with fail
        cases hx : Dg.isB x with
        | false =>
          refine (ris_of x false hx hsz _).mono ?_
          rintro r w2 ⟨rfl, hb2⟩
          have hRf : R = false := by rw [key.out]; exact allDig_no K x hm.out hx
          subst hRf
          clear key hx
          go_wp2
          go_ret
          subst hg
          exact ⟨rfl, bnext (bnext hb0 hbr) hb2⟩
        | true =>
          refine (ris_of x true hx hsz _).mono ?_
          rintro r w2 ⟨rfl, hb2⟩
          have hall2 : Hid (allDig (K.take (k + 1)) = true) := by
            unfold Hid allDig
            have := hall.out
            unfold allDig at this
            rw [hts.out, List.all_append, this]
            simp [hx]
          clear hx hall hts
          go_wp2
          go_roundw
          case rel => exact ⟨k + 1, by omega, by go_num, hall2, bnext hbr hb2⟩
          case measure => simp [intOf]; omega
      · obtain rfl : k = n := by omega
        have hRt : R = true := by rw [key.out]; exact allDig_whole HN.out hall.out
        subst hRt
        clear key hall
        go_wp2
        go_ret
        subst hg
        exact ⟨rfl, bnext hb0 hbr⟩)
end Go.Proofs.YtgncahnkkpjdpaaDoor
/- What the laws of pandectlaw39 hold while they walk. No conditions but those that each theorem states. -/
namespace Go.Proofs.YtgncahnkkpjdpaaDoor
open Go Go.RowKit Go.Sort Go.Maps
theorem cells5 {w : World} {g : Nat} {a0 a1 a2 a3 a4 : Value} {T : TypeId} (h : w.heap[g]? = some (.cells #[a0, a1, a2, a3, a4] T (0, 0))) :
    w.cell? ⟨g, 0, none⟩ = some a0 ∧ w.cell? ⟨g, 1, none⟩ = some a1 ∧ w.cell? ⟨g, 2, none⟩ = some a2 ∧ w.cell? ⟨g, 3, none⟩ = some a3 ∧ w.cell? ⟨g, 4, none⟩ = some a4 := by
  refine ⟨?_, ?_, ?_, ?_, ?_⟩ <;> (rw [cell_of_row _ _ _ _ _ (0, 0) h]; rfl)
/-- Rows of its own, keys, votes. -/
structure LS (B : Nat) (rows : List (Value × TypeId × List Value)) (A : Option Addr) (K : List ByteArray) (AV : Option Addr) (l : List Dg.Vt) (W : World) : Prop where
  own : OwnL W B rows
  key : Strs W W.heap.size A K
  vts : Vts W W.heap.size AV l
  env : Env W
theorem LS.below {B : Nat} {rows : List (Value × TypeId × List Value)} {A : Option Addr} {K : List ByteArray} {AV : Option Addr} {l : List Dg.Vt} {W W' : World} (h : LS B rows A K AV l W) (hb : Below W.heap.size W W') : LS B rows A K AV l W' :=
  ⟨h.own.below hb, keepS h.key hb, h.vts.keep hb, h.env.next hb⟩
theorem LS.lit {B : Nat} {rows : List (Value × TypeId × List Value)} {A : Option Addr} {K : List ByteArray} {AV : Option Addr} {l : List Dg.Vt} {W : World} (h : LS B rows A K AV l W) (hB : B ≤ W.heap.size) (cs : Array Value) (T : TypeId) (n : Nat) (hn : cs.size = n) (hm : n ≤ maxLen) : LS B ((.slice (some ⟨W.heap.size, 0, none⟩) n n, T, cs.toList) :: rows) A K AV l (W.alloc (.cells cs T)) :=
  ⟨h.own.lit hB cs T n hn hm, (h.below (Below.news (Below.refl _ _) _)).key, (h.below (Below.news (Below.refl _ _) _)).vts, (h.below (Below.news (Below.refl _ _) _)).env⟩
theorem LS.row {B g n : Nat} {T : TypeId} {xs : List Value} {rows : List (Value × TypeId × List Value)} {A : Option Addr} {K : List ByteArray} {AV : Option Addr} {l : List Dg.Vt} {W : World} (h : LS B rows A K AV l W) (hm : ((Value.slice (some ⟨g, 0, none⟩) n n, T, xs) : Value × TypeId × List Value) ∈ rows) : W.heap[g]? = some (.cells xs.toArray T (0, 0)) := OwnV.row (h.own.own _ hm)
/-- What few says. -/
structure FewV (K : List ByteArray) (l : List Dg.Vt) (most : Nat) : Prop where
  nl : l.length ≤ most
  nk : K.length ≤ 10
  kz : ∀ s ∈ K, s.size ≤ 60
  vz : ∀ v ∈ l, v.bill.size ≤ 100 ∧ v.sig.length ≤ 30 ∧ (∀ s ∈ v.sig, s.size ≤ 100) ∧ v.path.length ≤ 30 ∧ ∀ s ∈ v.path, s.size ≤ 100
theorem few_spec {K : List ByteArray} {l : List Dg.Vt} {most : Nat} (h : fewVB K l most = true) : FewV K l most := by
  unfold fewVB at h
  simp only [Bool.and_eq_true, decide_eq_true_eq, List.all_eq_true] at h
  obtain ⟨h1, h2, h3, h4⟩ := h
  refine ⟨h1, h2, fun s hs => ?_, fun v hv => ?_⟩
  · have := ((Dg.few_iff K 60).1 h3).2 s hs; omega
  · have h5 := h4 v hv
    unfold fewV1 at h5
    rw [Bool.and_eq_true, decide_eq_true_eq] at h5
    obtain ⟨⟨a1, a2⟩, a3, a4⟩ := (fewS_iff _ _).1 h5.1
    exact ⟨h5.2, a1, a2, a3, a4⟩
theorem FewV.vt0 {K : List ByteArray} {l : List Dg.Vt} {most : Nat} (h : FewV K l most) (hw : ∀ v ∈ l, VtW v) : ∀ v ∈ l, Vt0 v := fun v hv => by
  obtain ⟨h1, _, h2, _, h3⟩ := h.vz v hv
  have h4 := hw v hv
  exact ⟨h4.m0, h4.m1, h4.c0, h4.c1, by omega, fun s hs => by have := h2 s hs; omega, fun s hs => by have := h3 s hs; omega⟩
theorem FewV.key {K : List ByteArray} {l : List Dg.Vt} {most : Nat} (h : FewV K l most) : ∀ s ∈ K, s.size ≤ 4611686018427387904 := fun s hs => by have := h.kz s hs; omega
theorem cnt_sum (r : Dg.Rl) (bill : ByteArray) (l : List Dg.Vt) : (Dg.cnt r bill l).yes + (Dg.cnt r bill l).no + (Dg.cnt r bill l).bad.length = l.length := Dg.cnt_le r bill l
end Go.Proofs.YtgncahnkkpjdpaaDoor
/- Slices of votes of the call's own. No conditions but those that each theorem states. -/
namespace Go.Proofs.YtgncahnkkpjdpaaDoor
open Go Go.RowKit Go.Sort Go.Maps
theorem voteInfo : (Tryd.prog.info? 33).map (fun i => (i.zero, i.size, i.bytes)) = some (some (.agg #[.int .i64 0, .string ⟨#[]⟩, .int .i64 0, .bool false, .int .i64 0, .slice none 0 0, .slice none 0 0]), 7, 96) := by kernel_rfl
/-- Votes of the call's own, from block B on. -/
def OwnC (w : World) (B : Nat) (v : Value) (cs : List VtC) : Prop := w.ownsRow B 33 7 v cs.length (cs.flatMap VtC.cells)
theorem cells_len (cs : List VtC) : (cs.flatMap VtC.cells).length = cs.length * 7 := by
  induction cs with
  | nil => rfl
  | cons c cs ih => rw [List.flatMap_cons, List.length_append, ih, List.length_cons]; show 7 + cs.length * 7 = _; omega
theorem cells_one (cs : List VtC) : ∀ u ∈ cs.flatMap VtC.cells, u.oneCell' = true := fun u hu => by
  obtain ⟨c, _, hc⟩ := List.mem_flatMap.1 hu
  simp only [VtC.cells, List.mem_cons, List.not_mem_nil, or_false] at hc
  rcases hc with rfl | rfl | rfl | rfl | rfl | rfl | rfl <;> rfl
theorem OwnC.nil (w : World) (B : Nat) : OwnC w B (.slice none 0 0) [] := World.ownsRow_nil w B _ 7
theorem OwnC.below {w w' : World} {B : Nat} {v : Value} {cs : List VtC} (h : OwnC w B v cs) (hb : Below w.heap.size w w') : OwnC w' B v cs := own_below h hb
theorem OwnC.vts {w : World} {B : Nat} {v : Value} {cs : List VtC} (h : OwnC w B v cs) (hin : ∀ c ∈ cs, VtIn w w.heap.size c.v c.A1 c.A2 c.e1 c.e2) : ∃ A c, v = .slice A cs.length c ∧ Vts w w.heap.size A (cs.map VtC.v) ∧ cs.length ≤ c := by
  rcases h.2 with ⟨rfl, h0⟩ | ⟨g, cap, cur, rfl, hB, hg, hc, _, hsz, hx⟩
  · obtain rfl := List.length_eq_zero_iff.1 h0
    exact ⟨none, 0, rfl, ⟨fun h => by simp at h⟩, Nat.le_refl _⟩
  · refine ⟨_, cap, rfl, ⟨fun _ => ⟨g, 0, rfl, lt_of_block hg, fun j v hj => ?_⟩⟩, hc⟩
    rw [List.getElem?_map] at hj
    cases hcj : cs[j]? with
    | none => rw [hcj] at hj; cases hj
    | some c =>
      rw [hcj] at hj
      obtain rfl : c.v = v := by simpa using hj
      refine ⟨c.A1, c.A2, c.e1, c.e2, hin c (List.mem_of_getElem? hcj), fun i u hu => ?_⟩
      have hi : i < 7 := (Array.getElem?_eq_some_iff.1 hu).1
      have hjl := (List.getElem?_eq_some_iff.1 hcj).1
      rw [Nat.zero_add, cell_of_row _ _ _ _ _ (0, 0) hg, ← Array.getElem?_toList]
      have h1 : (cur.toList.take (cs.length * 7))[j * 7 + i]? = some u := by
        rw [hx, flat_get cs j i c hcj hi]
        rw [← Array.getElem?_toList] at hu
        exact hu
      rw [List.getElem?_take] at h1
      split at h1
      · exact h1
      · exact absurd h1 (by simp)
/-- An append of votes. -/
theorem step_ac {w : World} {ops : Array Oper} {rest : List Oper} {o : Oper} {a : Act} {Q : Exit → Act → World → Prop} (hgd : Region.wanted o (yielded ops a.tmps) = true) (sl x : Operand)
    (ho : o.op = .call { callee := .builtin .append, args := #[sl, x], argTypes := #[25, 25] })
    (B : Nat) (v : Value) (cs ns : List VtC) (hs : a.eval sl = v) (hO : OwnC w B v cs) (ad : Addr) (n cap : Nat) (hx : a.eval x = .slice (some ad) n cap) (hn : ns.length = n) (hsrc : ∀ (j : Nat) u, (ns.flatMap VtC.cells)[j]? = some u → w.cell? (ad.add j) = some u)
    (hlen : cs.length + n ≤ 1099511627776) (hB : B ≤ w.heap.size)
    (h : ∀ v' w', OwnC w' B v' (cs ++ ns) → Below B w w' → wpList Tryd.prog ops Q rest (a.put o.dst v') w') : wpList Tryd.prog ops Q (o :: rest) a w := by
  subst hn
  obtain ⟨i, h1, h2, h3, h4⟩ := info_parts voteInfo
  obtain ⟨v', w', hr, h5, h6, _, _⟩ := run_append_own_at (P := Tryd.prog) w B 25 o.type 33 i _ 7 96 Tryd.underlying25 h1 h2 h3 h4 rfl (by omega) v cs.length _ hO ad ns.length cap _ (cells_len ns) hsrc (cells_one ns) (by unfold maxLen; omega) (by omega) hB
  refine wpList_wanted hgd fun K hK => ?_
  unfold Oper.wp execOp
  simp only [ho, resolve, invoke, builtin, Sem.run_bind, Sem.run_pure, Result.andThen_ok, List.map_toArray, List.map_cons, List.map_nil, hs, hx, hr]
  refine hK _ _ (h v' w' ?_ ((Below.refl B w).grown h6 hB fun k hk => (World.ownsRow.lt hO k hk).1))
  unfold OwnC
  rw [List.length_append, List.flatMap_append]
  exact h5
end Go.Proofs.YtgncahnkkpjdpaaDoor
/- Appends of whole slices of votes. No conditions but those that each theorem states. -/
namespace Go.Proofs.YtgncahnkkpjdpaaDoor
open Go Go.RowKit Go.Sort Go.Maps
/-- Cells of votes in a row, or none. -/
def SrcC (w : World) (A : Option Addr) (ns : List VtC) : Prop := ns = [] ∨ ∃ b off, A = some ⟨b, off, none⟩ ∧ ∀ (j : Nat) u, (ns.flatMap VtC.cells)[j]? = some u → w.cell? ⟨b, off + j, none⟩ = some u
theorem SrcC.keep {w w' : World} {A : Option Addr} {ns : List VtC} (h : SrcC w A ns) (hb : Below w.heap.size w w') : SrcC w' A ns := by
  rcases h with h | ⟨b, off, e, h⟩
  · exact Or.inl h
  · refine Or.inr ⟨b, off, e, fun j u hu => ?_⟩
    have h1 := h j u hu
    exact (hb.cell (block_lt_of_cell h1)).trans h1
theorem SrcC.grown {w w' : World} {g : Nat} {ns : List VtC} {row : Option Nat} (h : SrcC w (some ⟨g, 0, none⟩) ns) (hg : w.grownBy w' row) (hne : row ≠ some g) : SrcC w' (some ⟨g, 0, none⟩) ns := by
  rcases h with h | ⟨b, off, e, h⟩
  · exact Or.inl h
  · refine Or.inr ⟨b, off, e, fun j u hu => ?_⟩
    have h1 := h j u hu
    injection e with e
    injection e with e1 e2 _
    subst e1 e2
    have h2 := block_lt_of_cell h1
    have h3 : w'.heap[g]? = w.heap[g]? := hg.block g h2 (fun e => hne e.symm)
    rw [← h1]
    exact World.cell?_of_block (w := w) (a := ⟨g, 0 + j, none⟩) h3
theorem SrcC.lit (w : World) (c : VtC) (cs : Array Value) (T : TypeId) (h : cs.toList = c.cells) : SrcC (w.alloc (.cells cs T)) (some ⟨w.heap.size, 0, none⟩) [c] :=
  Or.inr ⟨_, _, rfl, fun j u hu => by
    rw [cell_of_row _ _ _ _ _ (0, 0) (heap_alloc_new w _), Nat.zero_add, ← Array.getElem?_toList, h]
    simpa using hu⟩
/-- The votes of a slice, as they lie. -/
theorem Vts.cs {w : World} {B : Nat} {A : Option Addr} {l : List Dg.Vt} (h : Vts w B A l) : ∃ cs : List VtC, cs.map VtC.v = l ∧ (∀ c ∈ cs, VtIn w B c.v c.A1 c.A2 c.e1 c.e2) ∧ SrcC w A cs := by
  rcases Nat.eq_zero_or_pos l.length with h0 | h0
  · obtain rfl := List.length_eq_zero_iff.1 h0
    exact ⟨[], rfl, by simp, Or.inl rfl⟩
  · obtain ⟨b, off, rfl, hb, hc⟩ := h.at_ h0
    have h1 : ∀ j : Nat, ∃ c : VtC, ∀ v, l[j]? = some v → c.v = v ∧ VtIn w B c.v c.A1 c.A2 c.e1 c.e2 ∧ ∀ (i : Nat) (u : Value), c.cells[i]? = some u → w.cell? ⟨b, off + j * 7 + i, none⟩ = some u := fun j => by
      cases hv : l[j]? with
      | none => exact ⟨⟨⟨0, ⟨#[]⟩, 0, false, 0, [], []⟩, none, none, 0, 0⟩, fun v e => by cases e⟩
      | some v =>
        obtain ⟨A1, A2, e1, e2, hin, hcc⟩ := hc j v hv
        refine ⟨⟨v, A1, A2, e1, e2⟩, fun v' e => ?_⟩
        cases e
        refine ⟨rfl, hin, fun i u hu => hcc i u ?_⟩
        rw [← Array.getElem?_toList]
        exact hu
    obtain ⟨f, hf⟩ := Classical.axiomOfChoice h1
    have hcs : ((List.range l.length).map f).map VtC.v = l := by
      refine List.ext_getElem? fun j => ?_
      rw [List.getElem?_map, List.getElem?_map]
      rcases Nat.lt_or_ge j l.length with hj | hj
      · rw [List.getElem?_range hj, List.getElem?_eq_getElem hj]
        exact congrArg some (hf j _ (List.getElem?_eq_getElem hj)).1
      · rw [List.getElem?_eq_none (by rw [List.length_range]; exact hj), List.getElem?_eq_none hj]; rfl
    refine ⟨(List.range l.length).map f, hcs, fun c hc2 => ?_, Or.inr ⟨b, off, rfl, fun j u hu => ?_⟩⟩
    · obtain ⟨j, hj, rfl⟩ := List.mem_map.1 hc2
      exact (hf j _ (List.getElem?_eq_getElem (List.mem_range.1 hj))).2.1
    · have hjl : j < l.length * 7 := by
        have := (List.getElem?_eq_some_iff.1 hu).1
        rw [cells_len, List.length_map, List.length_range] at this
        exact this
      have hd : j / 7 < l.length := by omega
      have hm : j % 7 < 7 := Nat.mod_lt _ (by omega)
      have hj : j = j / 7 * 7 + j % 7 := by omega
      have hcj : ((List.range l.length).map f)[j / 7]? = some (f (j / 7)) := by rw [List.getElem?_map, List.getElem?_range hd]; rfl
      rw [hj, flat_get _ _ _ _ hcj hm] at hu
      have := (hf (j / 7) _ (List.getElem?_eq_getElem hd)).2.2 (j % 7) u hu
      rw [hj, show off + (j / 7 * 7 + j % 7) = off + j / 7 * 7 + j % 7 by omega]
      exact this
/-- An empty literal of votes. -/
theorem OwnC.emptyLit (w : World) (B : Nat) (hB : B ≤ w.heap.size) : OwnC (w.alloc (.cells #[] 33)) B (.slice (some ⟨w.heap.size, 0, none⟩) 0 0) [] :=
  ⟨rfl, Or.inr ⟨_, 0, #[], rfl, hB, heap_alloc_new w _, Nat.le_refl _, Nat.zero_le _, rfl, rfl⟩⟩
/-- An append of a slice of votes. -/
theorem wp_ac {w : World} {o : Oper} {a : Act} {K : Act → World → Prop} {Q : Exit → Act → World → Prop} (sl x : Operand)
    (ho : o.op = .call { callee := .builtin .append, args := #[sl, x], argTypes := #[25, 25] })
    (B : Nat) (v : Value) (cs ns : List VtC) (hs : a.eval sl = v) (hO : OwnC w B v cs) (A : Option Addr) (n cap : Nat) (hx : a.eval x = .slice A n cap) (hn : ns.length = n) (hsrc : SrcC w A ns)
    (hlen : (cs.length + n) * 96 ≤ 140737488355328) (hB : B ≤ w.heap.size)
    (h : ∀ v' w', OwnC w' B v' (cs ++ ns) → Below B w w' → w.grownBy w' v.ownBlock → K (a.put o.dst v') w') : o.wp Tryd.prog a w K Q := by
  subst hn
  obtain ⟨i, h1, h2, h3, h4⟩ := info_parts voteInfo
  have hrun0 : ∀ c, (Builtin.append_ #[25, 25] o.type #[v, .slice none 0 c]).run Tryd.prog w = .ok v w := fun c => run_append_none (P := Tryd.prog) B 25 o.type 33 i 7 Tryd.underlying25 h1 v cs.length _ hO c
  have key : ∃ v' w', (Builtin.append_ #[25, 25] o.type #[v, .slice A ns.length cap]).run Tryd.prog w = .ok v' w' ∧ OwnC w' B v' (cs ++ ns) ∧ Below B w w' ∧ w.grownBy w' v.ownBlock := by
    cases A with
    | none =>
      have h0 : ns = [] := by
        rcases hsrc with h0 | ⟨_, _, h0, _⟩
        · exact h0
        · cases h0
      subst h0
      exact ⟨v, w, hrun0 cap, by rw [List.append_nil]; exact hO, Below.refl _ _, ⟨rfl, rfl, rfl, Nat.le_refl _, fun _ _ _ => rfl⟩⟩
    | some ad =>
      obtain ⟨v', w', hr, h5, h6, _, _⟩ := run_append_own_at (P := Tryd.prog) w B 25 o.type 33 i _ 7 96 Tryd.underlying25 h1 h2 h3 h4 rfl (by omega) v cs.length _ hO ad ns.length cap _ (cells_len ns) (fun j u hj => by
        rcases hsrc with h0 | ⟨b, off, h0, hc⟩
        · rw [h0] at hj; cases hj
        · cases h0
          rw [addr_off]
          exact hc j u hj) (cells_one ns) (by unfold maxLen; omega) (by omega) hB
      refine ⟨v', w', hr, ?_, (Below.refl B w).grown h6 hB fun k hk => (World.ownsRow.lt hO k hk).1, h6⟩
      unfold OwnC
      rw [List.length_append, List.flatMap_append]
      exact h5
  obtain ⟨v', w', hrun, h5, h6, h7⟩ := key
  unfold Oper.wp execOp
  simp only [ho, resolve, invoke, builtin, Sem.run_bind, Sem.run_pure, Result.andThen_ok, List.map_toArray, List.map_cons, List.map_nil, hs, hx, hrun]
  exact h v' w' h5 h6 h7
namespace Dg
/-- One vote more that counts: carried stays so with a yes, not carried with a no. -/
theorem car_more (r : Rl) (cc : Int) (bill : ByteArray) (l : List Vt) (v : Vt) (h8 : l.length + 1 ≤ 8) (hok : okP r bill (l ++ [v]) l.length = true) (E1 E2 : Int) (h1 : carE r cc bill l = E1) (h2 : carE r cc bill (l ++ [v]) = E2) : (E1 = 0 → v.yes = true → E2 = 0) ∧ (E1 = 12 → v.yes = false → E2 = 12) := by
  have hp : properB r = true := by
    unfold okP at hok
    rw [Bool.and_eq_true] at hok
    exact hok.1
  obtain ⟨q0, q1, q2⟩ := properB_num hp
  have hc := cnt_snoc r bill l v hok
  have hl : (l ++ [v]).length = l.length + 1 := by simp
  unfold carE at h1 h2
  rw [hc, hl] at h2
  rw [if_neg (show ¬ 120 < l.length by omega)] at h1
  rw [if_neg (show ¬ 120 < l.length + 1 by omega)] at h2
  generalize (cnt r bill l).yes = Y at *
  generalize (cnt r bill l).no = X at *
  generalize hg : (properB r && (decide (cc = r.cham) && isB bill)) = G at *
  cases G with
  | false => rw [if_pos rfl] at h1; exact ⟨fun e => by omega, fun e => by omega⟩
  | true =>
    rw [if_neg (by decide)] at h1 h2
    cases hy : v.yes with
    | true =>
      rw [hy] at h2
      refine ⟨fun e _ => ?_, fun _ e => by cases e⟩
      subst e
      split at h1
      · cases h1
      · rename_i hq
        split at h1
        · cases h1
        · rename_i hm
          simp only [if_true] at h2
          have e1 : r.den * ((Y + 1 : Nat) : Int) = r.den * (Y : Int) + r.den := by rw [show ((Y + 1 : Nat) : Int) = (Y : Int) + 1 by omega, Int.mul_add, Int.mul_one]
          have e2 : r.num * (((Y + 1 : Nat) : Int) + (X : Int)) = r.num * ((Y : Int) + (X : Int)) + r.num := by rw [show ((Y + 1 : Nat) : Int) + (X : Int) = ((Y : Int) + (X : Int)) + 1 by omega, Int.mul_add, Int.mul_one]
          rw [if_neg (by omega), e1, e2, if_neg (by omega)] at h2
          exact h2.symm
    | false =>
      rw [hy] at h2
      refine ⟨fun _ e => (by cases e), fun e _ => ?_⟩
      subst e
      split at h1
      · cases h1
      · rename_i hq
        split at h1
        · rename_i hm
          simp only [Bool.false_eq_true, if_false] at h2
          have e2 : r.num * ((Y : Int) + ((X + 1 : Nat) : Int)) = r.num * ((Y : Int) + (X : Int)) + r.num := by rw [show (Y : Int) + ((X + 1 : Nat) : Int) = ((Y : Int) + (X : Int)) + 1 by omega, Int.mul_add, Int.mul_one]
          rw [if_neg (by omega), e2, if_pos (by omega)] at h2
          exact h2.symm
        · cases h1
end Dg
end Go.Proofs.YtgncahnkkpjdpaaDoor

