/- Walks and laws of this seat, several texts in one. No conditions but those that each theorem states. -/
import Derived.Test.YtgmimhgeigbpkaaDA6
import Derived.Deep.CutBlock
import Derived.Below
import Derived.ChangeSame
import Derived.ProofKit
import Derived.OpenShut
import Derived.LaidMore
import Derived.Lay
import Derived.SevenTiedAt
import Derived.Stop.Joined
import Derived.SliceStrings
import Derived.Lib.SmallJoins
import Derived.Deep.Slices
/- Draft of package bill: the kinds in plain Lean, codes that are not valid. No conditions but those that each theorem states. -/
namespace Go.Proofs.Ytgmimhgeigbpkaa
open Go Go.RowKit Go.Sort Go.Maps
theorem kindOf_some {m : ByteArray} : ∀ {s : List Dg.It}, kindOf s m ≠ 0 → ∃ x ∈ s, x.id = m ∧ x.kind = kindOf s m
 | [], h => absurd rfl h
 | x :: s, h => by
  by_cases e : x.id = m
  ·exact ⟨x, List.mem_cons_self .., e, by rw [kindOf, if_pos e]⟩
  ·rw [kindOf, if_neg e] at h ⊢
   obtain ⟨y, h1, h2, h3⟩ := kindOf_some h
   exact ⟨y, List.mem_cons_of_mem _ h1, h2, h3⟩
theorem draftOk_of {a tt : List Dg.It} (va : Dg.validC a = true) (vt : Dg.validC tt = true) (h1 : a.any (p1K tt.reverse) = false) (h2 : a.any (p2K tt.reverse) = false) : Dg.DraftOk a tt := ⟨va, vt, fun z hz => by
 rw [List.any_eq_false] at h1 h2
 have e1 := h1 z hz
 have e2 := h2 z hz
 unfold p1K at e1
 unfold p2K at e2
 have e1 : kindOf tt.reverse z.id ≠ 0 := by simpa using e1
 have e2 : kindOf tt.reverse z.id = z.kind := by simpa using e2
 obtain ⟨x, hx, hi, hk⟩ := kindOf_some e1
 exact ⟨x, List.mem_reverse.1 hx, hi, by rw [hk, e2]⟩⟩
set_option maxRecDepth 100000 in
set_option maxHeartbeats 4000000 in
theorem draft_inv (a tt : List Dg.It) (A B : Option Addr) (n m c d : Nat) (hl : a.length = n) (hm : tt.length = m) (hn : n ≤ 1048576) (hmn : m ≤ 1048576) (hw : ∀ x ∈ a, ItW x) (hwt : ∀ x ∈ tt, ItW x) (hv : (Dg.validC a && Dg.validC tt) = false) (w : World) (hI : Its w w.heap.size A a) (hJ : Its w w.heap.size B tt) :
  Calls Try.prog 6 #[.agg #[.slice A n c], .agg #[.slice B m d]] w fun e w' => e = .returned (.tuple #[.slice none 0 0, .int .i64 1]) ∧ Below w.heap.size w w' := by
 obtain ⟨r2, r3, hb, hs⟩ := iAlloc2 w (.cells #[.slice A n c] 24) (.cells #[.slice B m d] 24)
 have HI := hide hI; have HJ := hide hJ; have HL := hide hl; have HM := hide hm; have HW := hide hw; have HWT := hide hwt
 clear hI hJ hl hm hw hwt
 obtain ⟨R1, hR1⟩ : ∃ R, Dg.validC a = R := ⟨_, rfl⟩
 obtain ⟨R2, hR2⟩ : ∃ R, Dg.validC tt = R := ⟨_, rfl⟩
 rw [hR1, hR2] at hv
 have H1 := hide hR1; have H2 := hide hR2
 clear hR1 hR2
 have c2 := iCells0 r2
 have c3 := iCells0 r3
 go_enter Try.func6, Try.ntmps6
 go_wp2_with fail
 generalize (w.alloc (.cells #[.slice A n c] 24)).alloc (.cells #[.slice B m d] 24) = W1 at *
 refine (Code.valid_of a A n c HL.out HW.out hn W1 (HI.out.keep hb) R1 H1.out).mono ?_
 rintro e w2 ⟨rfl, hb2⟩
 have hb3 := bnext hb hb2
 have c32 := iCells0 (iNext r3 hb2)
 have HJ2 := hide ((HJ.out.keep hb).keep hb2)
 clear c2 c3 r2 r3 hb2 hb
 cases R1 with
 | false =>
  go_wp2
  refine bodyPost_ret (results_tmp2 rfl _ _ _) rfl ?_
  exact ⟨rfl, hb3⟩
 | true =>
  cases R2 with
  | true => cases hv
  | false =>
   go_wp2_with fail
   refine (Code.valid_of tt B m d HM.out HWT.out hmn w2 HJ2.out false H2.out).mono ?_
   rintro e w4 ⟨rfl, hb4⟩
   have hb5 := bnext hb3 hb4
   clear c32 hb4 hb3
   go_wp2
   refine bodyPost_ret (results_tmp2 rfl _ _ _) rfl ?_
   exact ⟨rfl, hb5⟩
end Go.Proofs.Ytgmimhgeigbpkaa
/- One round of a draft, in plain Lean. No program in sight. -/
namespace Go.Proofs.Ytgmimhgeigbpkaa.Dg
open Go
theorem draft_round {a t : List It} (h : DraftOk a t) {i : Nat} (hi : i < t.length) : ∃ s', runT oneP (draftS a t i).1 (stepL t (draftS a t i).1 i) = some s' ∧ draftS a t (i + 1) = (s', (draftS a t i).2 ++ stepL t (draftS a t i).1 i) := by
 obtain ⟨g1, g2, g3, g4⟩ := draft_at h i (by omega)
 obtain ⟨s', hr, hd⟩ := g2.step h.vt (by omega)
 refine ⟨s', hr, ?_⟩
 show (stepL t (draftS a t i).1 i).foldl doP ((draftS a t i).1, (draftS a t i).2) = _
 exact do_run _ _ _ _ hr
theorem step_new {t s : List It} {i : Nat} {x : It} (hi : i < t.length) (hx : t[i] = x) (h : idxI s x.id = none) : stepL t s i = [insP x (nbP t i x.parent)] := by
 unfold stepL
 rw [List.getElem?_eq_getElem hi, hx]
 show (match idxI s x.id with | none => _ | some k => _) = _
 rw [h]
theorem step_old {t s : List It} {i k : Nat} {x : It} (hi : i < t.length) (hx : t[i] = x) (h : idxI s x.id = some k) : stepL t s i = changeL (s.getD k zeroI) x (moveB s k x (nbP t i x.parent)) (nbP t i x.parent) := by
 unfold stepL
 rw [List.getElem?_eq_getElem hi, hx]
 show (match idxI s x.id with | none => _ | some k => _) = _
 rw [h]
theorem ins_ok {s s' : List It} {p : Pt} (h : runT oneP s [p] = some s') : applyP s p = (s', 0) := by
 rw [runT] at h
 cases e : oneP s p with
 | none => rw [e] at h; cases h
 | some s1 =>
  rw [e] at h
  have h2 : some s1 = some s' := h
  injection h2 with h2
  subst h2
  exact oneP_iff.1 e
/-- The neighbour's Id is short. -/
theorem nb_size {t : List It} (hv : validC t = true) (i : Nat) (q : ByteArray) : (nbP t i q).size ≤ 24 := by
 rcases nb_cases t i q with h | h
 ·rw [h]
  decide
 ·obtain ⟨x, hx, _, e⟩ := mem_kids.1 h
  rw [← e]
  have h2 := (proper_id (valid_proper hv x (List.mem_of_mem_take hx))).1
  unfold isNameB at h2
  rw [Bool.and_eq_true, decide_eq_true_eq] at h2
  exact h2.2
end Go.Proofs.Ytgmimhgeigbpkaa.Dg
/- Draft of package bill, of valid codes. No conditions but those that each theorem states. -/
namespace Go.Proofs.Ytgmimhgeigbpkaa
open Go Go.RowKit Go.Sort Go.Maps
theorem DrQ.below {D : Nat} {O : Option Nat} {l : List Dg.It} {ps : List Dg.Pt} {X Y Z : World} (h : DrQ D O l ps X Y) (hb : Below Y.heap.size Y Z) : DrQ D O l ps X Z := by
 obtain ⟨A, n, c, v, hS, hF, hN⟩ := h
 have hD := lt_of_block hS.row
 exact ⟨A, n, c, v, hS.below hb, hF.trans (DrF.of_below (O := O) hb (Nat.le_of_lt hD)) (.inl rfl), hN⟩
theorem DrQ.under {D : Nat} {O : Option Nat} {l : List Dg.It} {ps : List Dg.Pt} {X Y : World} (h : DrQ D O l ps X Y) : Below D X Y := by
 obtain ⟨A, n, c, v, hS, hF, hN⟩ := h
 exact hF.below
theorem DrQ.lt {D : Nat} {O : Option Nat} {l : List Dg.It} {ps : List Dg.Pt} {X Y : World} (h : DrQ D O l ps X Y) : D < Y.heap.size := by
 obtain ⟨A, n, c, v, hS, hF, hN⟩ := h
 exact lt_of_block hS.row
/-- What Draft says of valid codes. -/
def DraftR (a tt : List Dg.It) (w : World) (e : Ending) (w' : World) : Prop :=
 ((a.any (p1K tt.reverse) = true ∧ e = .returned (.tuple #[.slice none 0 0, .int .i64 11])) ∨
  (a.any (p1K tt.reverse) = false ∧ a.any (p2K tt.reverse) = true ∧ e = .returned (.tuple #[.slice none 0 0, .int .i64 12])) ∨
  (a.any (p1K tt.reverse) = false ∧ a.any (p2K tt.reverse) = false ∧ ∃ v', e = .returned (.tuple #[v', .int .i64 0]) ∧ Own1 ptL 39 w' w.heap.size v' (Dg.draftS a tt tt.length).2)) ∧ Below w.heap.size w w'
set_option maxRecDepth 100000 in
set_option maxHeartbeats 8000000 in
attribute [-go_sem] Instr.storeAt in
theorem draft_of (a tt : List Dg.It) (A B : Option Addr) (n m c d : Nat) (hl : a.length = n) (hm : tt.length = m) (hn : n ≤ 1048576) (hmn : m ≤ 1048576) (hnc : n ≤ c) (hmd : m ≤ d) (hm8 : m ≤ 8) (hw : ∀ x ∈ a, ItW x) (hwt : ∀ x ∈ tt, ItW x) (hva : Dg.validC a = true) (hvt : Dg.validC tt = true) (w : World) (hI : Its w w.heap.size A a) (hJ : Its w w.heap.size B tt) :
  Calls Try.prog 6 #[.agg #[.slice A n c], .agg #[.slice B m d]] w (DraftR a tt w) := by
 obtain ⟨r2, r3, hb, hs⟩ := iAlloc2 w (.cells #[.slice A n c] 24) (.cells #[.slice B m d] 24)
 have hmm := @run_makeMap Try.prog
 have hmf : ∀ (fn : Fn) (first cap : Array Value) (w : World), (Instr.makeFunc fn first cap).run Try.prog w = .ok (.func fn first cap) w := fun _ _ _ _ => rfl
 have HI := hide hI; have HJ := hide hJ; have HL := hide hl; have HM := hide hm; have HW := hide hw; have HWT := hide hwt
 clear hI hJ hl hm hw hwt
 have H1 := hide hva; have H2 := hide hvt
 clear hva hvt
 have c2 := iCells0 r2
 have c3 := iCells0 r3
 go_enter Try.func6, Try.ntmps6
 go_wp2_with fail
 generalize (w.alloc (.cells #[.slice A n c] 24)).alloc (.cells #[.slice B m d] 24) = W1 at *
 refine (Code.valid_of a A n c HL.out HW.out hn W1 (HI.out.keep hb) true H1.out).mono ?_
 rintro e w2 ⟨rfl, hb2⟩
 have hb3 := bnext hb hb2
 have r32 := iNext r3 hb2
 have r22 := iNext r2 hb2
 have c32 := iCells0 r32
 have HJ2 := hide ((HJ.out.keep hb).keep hb2)
 have HI2 := hide ((HI.out.keep hb).keep hb2)
 clear c2 c3 r2 r3 hb2 hb
 go_wp2_with fail
 refine (Code.valid_of tt B m d HM.out HWT.out hmn w2 HJ2.out true H2.out).mono ?_
 rintro e w4 ⟨rfl, hb4⟩
 have hb5 := bnext hb3 hb4
 have r24 := iNext r22 hb4
 have r34 := iNext r32 hb4
 have HJ4 := hide (HJ2.out.keep hb4)
 have HI4 := hide (HI2.out.keep hb4)
 clear c32 hb4 hb3 r22 r32
 have hrm : ((w4.alloc (.map #[] 0)).alloc (.cells #[.map none] 49)).heap[w4.heap.size + 1]? = some (.cells #[.map none] 49 (0, 0)) := by
  have := heap_alloc_new (w4.alloc (.map #[] 0)) (.cells #[.map none] 49)
  rwa [World.size_alloc] at this
 have hst : (Instr.storeAt 49 (.pointer (some ⟨w4.heap.size + 1, 0, none⟩)) (.map (some w4.heap.size))).run Try.prog ((w4.alloc (.map #[] 0)).alloc (.cells #[.map none] 49)) = .ok () ((w4.alloc (.map #[] 0)).alloc (.cells #[.map (some w4.heap.size)] 49)) := by
  have h := store_part (ty := 49) (T := 49) ((w4.alloc (.map #[] 0)).alloc (.cells #[.map none] 49)) (w4.heap.size + 1) 0 #[.map none] (.map (some w4.heap.size)) #[.map (some w4.heap.size)] hrm (by kernel_rfl) (Nat.le_refl _) (fun u hu => by
   obtain rfl : u = .map (some w4.heap.size) := List.mem_singleton.1 hu
   rfl) rfl
  rw [h]
  have e := setRow_alloc (w4.alloc (.map #[] 0)) #[.map none] #[.map (some w4.heap.size)] 49
  rw [World.size_alloc] at e
  rw [e]
 clear hrm
 go_upto_region 4 with (fail)
 clear hst
 have hbm := (Below.news (Below.refl w4.heap.size w4) (.map #[] 0)).alloc (by rw [World.size_alloc]; omega) (.cells #[.map (some w4.heap.size)] 49)
 have rm6 : ((w4.alloc (.map #[] 0)).alloc (.cells #[.map (some w4.heap.size)] 49)).heap[w4.heap.size + 1]? = some (.cells #[.map (some w4.heap.size)] 49 (0, 0)) := by
  have := heap_alloc_new (w4.alloc (.map #[] 0)) (.cells #[.map (some w4.heap.size)] 49)
  rwa [World.size_alloc] at this
 have hM6 := (World.ownsMap_made w4 Try.prog 9 rIn).alloc (.cells #[.map (some w4.heap.size)] 49)
 have r26 := iNext r24 hbm
 have r36 := iNext r34 hbm
 have HJ6 := hide (HJ4.out.below hbm)
 have HI6 := hide (HI4.out.below hbm)
 have hb6 := bnext hb5 hbm
 have hwm : w.heap.size + 2 ≤ w4.heap.size := by have := lt_of_block r34; omega
 clear r24 r34 hb5
 generalize (w4.alloc (.map #[] 0)).alloc (.cells #[.map (some w4.heap.size)] 49) = w6 at *
 generalize w4.heap.size = mb at *
 have hmz : mb + 1 < w6.heap.size := lt_of_block rm6
 have c36 := iCells0 r36
 go_upto_block 0 with fail
 clear c36
 go_cut [] from 26 to 36 (fun wx => Below mb w6 wx ∧ KiS wx (mb + 1) tt.reverse)
 case first =>
  go_wp2_with fail
  go_loopw [26] (fun iv wr => ∃ k : Nat, k ≤ m ∧ iv = .int .i64 k ∧ Below mb w6 wr ∧ wr.heap[mb + 1]? = some (.cells #[.map (some mb)] 49 (0, 0)) ∧ wr.ownsMap Try.prog 9 rIn mb k (kindsS (tt.take k).reverse)) (fun iv _ => m - (intOf iv).toNat)
  case atStart => exact ⟨0, Nat.zero_le _, rfl, Below.refl _ _, rm6, hM6⟩
  case round =>
   obtain ⟨k, hk, rfl, hbr, rmr, hMr⟩ := hrel
   by_cases hlt : k < m
   ·have hkl : k < tt.length := by rw [HM.out]; exact hlt
    obtain ⟨b, off, hA⟩ := HJ6.out.some hkl
    subst hA
    obtain ⟨x, hx⟩ : ∃ x, tt[k] = x := ⟨_, rfl⟩
    have hRI := hide (show wr.rangeAt b (off + k * 7) [.int .i64 x.1, .string x.2, .string x.3, .string x.4, .string x.5, .string x.6, .bool x.7] from its_range (HJ6.out.below hbr) hkl x hx)
    have hst := store_new (ty := 37) (T := 37) wr #[.int .i64 0, .string ⟨#[]⟩, .string ⟨#[]⟩, .string ⟨#[]⟩, .string ⟨#[]⟩, .string ⟨#[]⟩, .bool false] #[.int .i64 x.1, .string x.2, .string x.3, .string x.4, .string x.5, .string x.6, .bool x.7] (by kernel_rfl) rfl (all_oneCell_toArray (iLay.one x))
    have hxw : ItW x := by rw [← hx]; exact HWT.out _ (List.getElem_mem hkl)
    have hb9 := Below.news (Below.refl wr.heap.size wr) (.cells #[.int .i64 x.1, .string x.2, .string x.3, .string x.4, .string x.5, .string x.6, .bool x.7] 37)
    have rx := heap_alloc_new wr (.cells #[.int .i64 x.1, .string x.2, .string x.3, .string x.4, .string x.5, .string x.6, .bool x.7] 37)
    have rm9 := iNext rmr hb9
    have hM9 := hMr.alloc (.cells #[.int .i64 x.1, .string x.2, .string x.3, .string x.4, .string x.5, .string x.6, .bool x.7] 37)
    obtain ⟨w9, hrun, hM10, hgr⟩ := World.ownsMap.update (w := wr.alloc (.cells #[.int .i64 x.1, .string x.2, .string x.3, .string x.4, .string x.5, .string x.6, .bool x.7] 37)) hM9 lawStr Try.underlying49 (by unfold maxLen; omega) (key_str x.id hxw.iz) (plainElem_int (H := Unit) Try.underlying3 (a := x.kind) (by
     show (decide ((-9223372036854775808 : Int) ≤ x.kind) && decide (x.kind ≤ 9223372036854775807)) = true
     rw [decide_eq_true hxw.k0, decide_eq_true hxw.k1]
     rfl))
    have c6 := iCells0 rm9
    have hf := fun j => cell_of_row _ _ j _ _ _ rx
    have f0 : (wr.alloc (.cells #[.int .i64 x.1, .string x.2, .string x.3, .string x.4, .string x.5, .string x.6, .bool x.7] 37)).cell? ⟨wr.heap.size, 0, none⟩ = some (.int .i64 x.kind) := hf 0
    have f1 : (wr.alloc (.cells #[.int .i64 x.1, .string x.2, .string x.3, .string x.4, .string x.5, .string x.6, .bool x.7] 37)).cell? ⟨wr.heap.size, 1, none⟩ = some (.string x.id) := hf 1
    have hbw9 : Below mb w6 w9 := (hbr.alloc (by have := hbr.size; omega) (.cells #[.int .i64 x.1, .string x.2, .string x.3, .string x.4, .string x.5, .string x.6, .bool x.7] 37)).trans ((Below.refl mb _).grown hgr (by have := hbr.size; rw [World.size_alloc]; omega) (fun q hq => by injection hq with hq; omega))
    have rm10 := (hgr.block (mb + 1) (by have := hbr.size; rw [World.size_alloc]; omega) (fun e => by injection e with e; omega)).trans rm9
    have HX := hide hx
    have hk0 : (0 : Int) ≤ (k : Int) := by omega
    have hkn : (k : Int) < (m : Int) := by omega
    have HM10 := hide hM10; have HR10 := hide rm10; have HB9 := hide hbw9
    clear hf rx rm9 hM9 hM10 rm10 hbw9 hx hb9 hgr hMr rmr hxw
    go_wp2_with (with_reducible refine wpList_load_mid rfl 37 (.tmp 28) rfl b (off + k * 7) rfl _ _ hRI.out Try.underlying37 rfl (by kernel_rfl) ?_)
    clear hst hrun f0 f1 c6 hRI
    go_roundw
    case rel =>
     refine ⟨k + 1, by omega, by go_num, HB9.out, HR10.out, ?_⟩
     rw [List.take_succ_eq_append_getElem hkl, List.reverse_append, HX.out]
     exact HM10.out
    case measure => simp [intOf]; omega
   ·obtain rfl : k = m := by omega
    have HKI : Hid (KiS wr (mb + 1) tt.reverse) := ⟨mb, k, rmr, by rw [← HM.out, List.take_length] at hMr; exact (HM.out ▸ hMr)⟩
    clear rmr hMr
    go_wp2_with fail
    go_meet
    case rel => exact ⟨hbr, HKI⟩
 case rest =>
  obtain ⟨hbr, hK⟩ := hcut
  rename World => wq
  have r2q := (hbr.block w.heap.size (by omega)).trans r26
  have r3q := (hbr.block (w.heap.size + 1) (by omega)).trans r36
  have hmq : mb ≤ wq.heap.size := by have := hbr.size; omega
  have HIq := hide ((HI6.out.below hbr).more hmq)
  have HJq := hide ((HJ6.out.below hbr).more hmq)
  have hbq := hb6.trans (hbr.mono (show w.heap.size ≤ mb by omega))
  have HKq := hide hK
  have HXI := hide (fun x (hx : x ∈ a) => (HW.out x hx).iz)
  clear r26 r36 hbr hb6 hM6 rm6 hK
  obtain ⟨Q1, hQ1⟩ : ∃ Q, a.any (p1K tt.reverse) = Q := ⟨_, rfl⟩
  obtain ⟨Q2, hQ2⟩ : ∃ Q, a.any (p2K tt.reverse) = Q := ⟨_, rfl⟩
  have HQ1 := hide hQ1; have HQ2 := hide hQ2
  clear hQ1 hQ2
  have c2q := iCells0 r2q
  go_wp2_with fail
  refine (contains1_any tt.reverse a A n c HL.out hn HXI.out (mb + 1) wq HIq.out HKq.out Q1 HQ1.out).mono ?_
  rintro e u1 ⟨rfl, hx1⟩
  have r2u := iNext r2q hx1
  have r3u := iNext r3q hx1
  have HIu := hide (HIq.out.keep hx1)
  have HJu := hide (HJq.out.keep hx1)
  have HKu := hide (HKq.out.below hx1)
  have hbu := bnext hbq hx1
  clear c2q r2q r3q hbq hx1
  cases Q1 with
  | true =>
   go_wp2
   refine bodyPost_ret (results_tmp2 rfl _ _ _) rfl ?_
   exact ⟨.inl ⟨HQ1.out, rfl⟩, hbu⟩
  | false =>
   have c2u := iCells0 r2u
   go_wp2_with fail
   refine (contains2_any tt.reverse a A n c HL.out hn HXI.out (mb + 1) u1 HIu.out HKu.out Q2 HQ2.out).mono ?_
   rintro e u2 ⟨rfl, hx2⟩
   have r2v := iNext r2u hx2
   have r3v := iNext r3u hx2
   have HIv := hide (HIu.out.keep hx2)
   have HJv := hide (HJu.out.keep hx2)
   have hbv := bnext hbu hx2
   clear c2u r2u r3u hbu hx2
   cases Q2 with
   | true =>
    go_wp2
    refine bodyPost_ret (results_tmp2 rfl _ _ _) rfl ?_
    exact ⟨.inr (.inl ⟨HQ1.out, HQ2.out, rfl⟩), hbv⟩
   | false =>
    have HOK := hide (draftOk_of H1.out H2.out HQ1.out HQ2.out)
    have c2v := iCells0 r2v
    have c3v := iCells0 r3v
    go_upto_region 14 with (fail)
    clear c2v
    have hbn := Below.news (Below.refl u2.heap.size u2) (.cells #[.slice A n c, .slice none 0 0] 54)
    have rD := heap_alloc_new u2 (.cells #[.slice A n c, .slice none 0 0] 54)
    have hS0 : DrS (u2.alloc (.cells #[.slice A n c, .slice none 0 0] 54)) u2.heap.size a [] A n c (.slice none 0 0) := ⟨rD, HIv.out.keep hbn, HL.out, hnc, Own1.nil _ _ _ _, fun h0 ad e => by
     obtain ⟨b, off, e2, hlt, _⟩ := HIv.out.at_ h0
     rw [e] at e2
     injection e2 with e2
     rw [e2]
     exact ⟨Nat.ne_of_lt hlt, fun h => by cases h⟩⟩
    have hQ0 : DrQ u2.heap.size none a [] (u2.alloc (.cells #[.slice A n c, .slice none 0 0] 54)) (u2.alloc (.cells #[.slice A n c, .slice none 0 0] 54)) := ⟨_, _, _, _, hS0, DrF.refl _ _ _, .inl rfl⟩
    have HJD := hide (HJv.out.below hbn)
    have hbD := bnext hbv hbn
    have r3D := iNext r3v hbn
    have hwD : w.heap.size + 2 ≤ u2.heap.size := by have := lt_of_block r3v; omega
    clear hS0 rD r2v r3v hbv hbn c3v
    generalize u2.alloc (.cells #[.slice A n c, .slice none 0 0] 54) = u3 at *
    generalize u2.heap.size = D at *
    have c3D := iCells0 r3D
    go_wp2_with fail
    clear c3D
    go_loopw [50] (fun iv wr => ∃ i : Nat, i ≤ m ∧ iv = .int .i64 i ∧ DrQ D none (Dg.draftS a tt i).1 (Dg.draftS a tt i).2 u3 wr) (fun iv _ => m - (intOf iv).toNat)
    case atStart => exact ⟨0, Nat.zero_le _, rfl, hQ0⟩
    case round =>
     obtain ⟨i, hi, rfl, hQ⟩ := hrel
     by_cases hlt : i < m
     ·have hil : i < tt.length := by rw [HM.out]; exact hlt
      have hDr := hQ.under
      have hDl := hQ.lt
      have hJr := HJD.out.below hDr
      obtain ⟨b, off, hA⟩ := hJr.some hil
      subst hA
      obtain ⟨x, hx⟩ : ∃ x, tt[i] = x := ⟨_, rfl⟩
      have hRI := hide (show wr.rangeAt b (off + i * 7) [.int .i64 x.1, .string x.2, .string x.3, .string x.4, .string x.5, .string x.6, .bool x.7] from its_range hJr hil x hx)
      have hst := store_new (ty := 37) (T := 37) wr #[.int .i64 0, .string ⟨#[]⟩, .string ⟨#[]⟩, .string ⟨#[]⟩, .string ⟨#[]⟩, .string ⟨#[]⟩, .bool false] #[.int .i64 x.1, .string x.2, .string x.3, .string x.4, .string x.5, .string x.6, .bool x.7] (by kernel_rfl) rfl (all_oneCell_toArray (iLay.one x))
      have hb9 := Below.news (Below.refl wr.heap.size wr) (.cells #[.int .i64 x.1, .string x.2, .string x.3, .string x.4, .string x.5, .string x.6, .bool x.7] 37)
      have rx := heap_alloc_new wr (.cells #[.int .i64 x.1, .string x.2, .string x.3, .string x.4, .string x.5, .string x.6, .bool x.7] 37)
      have hQ1 := hQ.below hb9
      have r3r := iNext ((hDr.block (w.heap.size + 1) (by omega)).trans r3D) hb9
      have HJr := hide ((hJr.more (Nat.le_of_lt hDl)).keep hb9)
      have HX := hide hx
      have i0 : (0 : Int) ≤ (i : Int) := by omega
      have im : (i : Int) < (m : Int) := by omega
      clear hx hJr hQ hQ0 hDr hb9
      go_upto_region 17 with (with_reducible refine wpList_load_mid rfl 37 (.tmp 53) rfl b (off + i * 7) rfl _ _ hRI.out Try.underlying37 rfl (by kernel_rfl) ?_)
      clear hst hRI
      obtain ⟨b11, hb11⟩ : ∃ b, b = wr.heap.size := ⟨_, rfl⟩
      rw [← hb11] at rx hDl ⊢
      generalize wr.alloc (.cells #[.int .i64 x.1, .string x.2, .string x.3, .string x.4, .string x.5, .string x.6, .bool x.7] 37) = W1 at *
      clear hb11
      have c3r := iCells0 r3r
      have cx2 : W1.cell? ⟨b11, 2, none⟩ = some (.string x.parent) := cell_of_row _ _ 2 _ _ _ rx
      obtain ⟨R, hR⟩ : ∃ R, Dg.nbP tt i x.parent = R := ⟨_, rfl⟩
      have HR := hide hR
      clear hR
      go_upto_region 17 with (fail)
      go_wp2_with fail
      refine (neighbour_of tt _ m d HM.out hmn i hi hmd x.parent W1 HJr.out R HR.out).mono ?_
      rintro e W2 ⟨rfl, hx4⟩
      have hQ2 := hQ1.below hx4
      have rx2 := iNext rx hx4
      clear c3r cx2 hQ1 rx r3r hx4 HJr
      have hDA := Dg.draft_at HOK.out i (by omega)
      have hsl := valid_len hDA.2.1.valid
      have HDA := hide hDA
      clear hDA
      generalize hs0 : (Dg.draftS a tt i).1 = s0 at hQ2 hsl
      generalize hp0 : (Dg.draftS a tt i).2 = p0 at hQ2
      have HS0 := hide hs0; have HP0 := hide hp0
      clear hs0 hp0
      have HQ2 := hide hQ2
      obtain ⟨A', n', c', v, hS, hF, hN⟩ := hQ2
      have hnn : n' ≤ 1048576 := by rw [← hS.len]; omega
      have HLS := hide hS.len
      have HSK := hide (fun X (hX : Below W2.heap.size W2 X) => hS.below hX)
      have HXK := hide (fun X (hX : Below W2.heap.size W2 X) => iNext rx2 hX)
      obtain ⟨K0, hK0⟩ : ∃ K, findX s0 x.id = K := ⟨_, rfl⟩
      have HK0 := hide hK0
      clear hS hF hN rx2 hK0
      have hmx : Try.prog.follows .mixedOrders = true := by kernel_rfl
      go_upto_region 18 with (fail)
      go_cut [13] from 60 to 67 (fun v13 wx => v13 = .int .i64 K0 ∧ Below W2.heap.size W2 wx)
      case first =>
       refine wp_region_noPanic ?_
       refine wp_region_L (Below W2.heap.size W2) 8 hmx ?_
       have hH0 : (Below W2.heap.size W2) W2.drew := (Below.refl W2.heap.size W2).drew
       generalize W2.drew = u0 at *
       refine tkY 0 10 ?_ rfl ?_ hH0 ?_
       rotate_left
       ·intro wS hS; go_simp; (try with_reducible rfl)
       simp only [Act.put, pu1, pu2, pu3, pu4, pu5, pu6]
       refine tkY 1 10 ?_ rfl ?_ hH0 ?_
       rotate_left
       ·intro wS hS; go_simp; (try with_reducible rfl)
       simp only [Act.put, pu1, pu2, pu3, pu4, pu5, pu6]
       refine tkY 2 10 ?_ rfl ?_ hH0 ?_
       rotate_left
       ·intro wS hS; go_simp; (try with_reducible rfl)
       simp only [Act.put, pu1, pu2, pu3, pu4, pu5, pu6]
       refine tkY 3 10 ?_ rfl ?_ hH0 ?_
       rotate_left
       ·intro wS hS; have c0 : wS.cell? ⟨D, 0, none⟩ = some (.slice A' n' c') := cell_of_row _ _ 0 _ _ _ (HSK.out _ hS).row; go_simp; (try with_reducible rfl)
       simp only [Act.put, pu1, pu2, pu3, pu4, pu5, pu6]
       refine tkY 4 10 ?_ rfl ?_ hH0 ?_
       rotate_left
       ·intro wS hS; go_simp; (try with_reducible rfl)
       simp only [Act.put, pu1, pu2, pu3, pu4, pu5, pu6]
       refine tkY 5 10 ?_ rfl ?_ hH0 ?_
       rotate_left
       ·intro wS hS; have cx : wS.cell? ⟨b11, 1, none⟩ = some (.string x.id) := cell_of_row _ _ 1 _ _ _ (HXK.out _ hS); go_simp; (try with_reducible rfl)
       simp only [Act.put, pu1, pu2, pu3, pu4, pu5, pu6]
       refine onY 6 (by rfl) fun K hK => ?_
       go_simp
       refine (Code.find_of s0 A' n' c' HLS.out hnn x.id u0 (HSK.out _ hH0).its K0 HK0.out).mono ?_
       rintro e u1 ⟨rfl, hx1⟩
       have hH1 := hH0.trans (hx1.mono hH0.size)
       refine hK.out _ _ (Or.inr hH1) ?_
       clear hK K hx1 hH0
       try simp only [Act.put, pu1, pu2, pu3, pu4, pu5, pu6]
       refine tkY 7 10 ?_ rfl ?_ hH1 ?_
       rotate_left
       ·intro wS hS; go_simp; (try with_reducible rfl)
       simp only [Act.put, pu1, pu2, pu3, pu4, pu5, pu6]
       refine dnY ?_
       go_wp2_with fail
       go_meet
       case rel => exact ⟨rfl, hH1⟩
      case rest =>
       obtain ⟨rfl, hb18⟩ := hcut
       rename World => W3
       have HQ3 := hide (HQ2.out.below hb18)
       have HX3 := hide (HXK.out _ hb18)
       have HXW := hide (show ItW x by rw [← HX.out]; exact HWT.out _ (List.getElem_mem hil))
       have HRZ := hide (show R.size ≤ 9223372036854775807 by have := Dg.nb_size H2.out i x.parent; rw [HR.out] at this; omega)
       obtain ⟨s', hrun, hst⟩ := Dg.draft_round HOK.out hil
       rw [HS0.out] at hrun
       rw [HS0.out, HP0.out] at hst
       have HRUN := hide hrun; have HST := hide hst
       have HPL := hide (show p0.length ≤ 48 by have := HDA.out.2.2.2; rw [HP0.out] at this; omega)
       clear hrun hst hb18 HXK HSK HLS hnn
       cases hix : Dg.idxI s0 x.id with
       | none =>
        have hk0 : K0 = -1 := by rw [← HK0.out, idxI_find, hix]
        subst hk0
        have hsl2 := Dg.step_new (s := s0) hil HX.out hix
        rw [HR.out] at hsl2
        have HSL := hide hsl2
        have HIX := hide hix
        clear hix hsl2
        have hRX := hide (range_of HX3.out 0 [.int .i64 x.1, .string x.2, .string x.3, .string x.4, .string x.5, .string x.6, .bool x.7] rfl)
        have cx1 : W3.cell? ⟨b11, 1, none⟩ = some (.string x.id) := cell_of_row _ _ 1 _ _ _ HX3.out
        have cx2 : W3.cell? ⟨b11, 2, none⟩ = some (.string x.parent) := cell_of_row _ _ 2 _ _ _ HX3.out
        go_wp2_with (with_reducible refine wpList_load_mid rfl 37 (.tmp 11) rfl b11 0 rfl _ _ hRX.out Try.underlying37 rfl (by kernel_rfl) ?_)
        refine (do_then D none s0 p0 (Dg.insP x R) ⟨(kz 1 (by decide)).1, (kz 1 (by decide)).2, (kz 0 (by decide)).1, (kz 0 (by decide)).2, HXW.out, HXW.out.iz, HXW.out.pz, HRZ.out, nz63⟩ (show (1 : Int) ≠ 2 by decide) (Nat.le_trans HPL.out (by omega)) s' (Dg.ins_ok (HSL.out ▸ HRUN.out)) u3 W3 HQ3.out).mono ?_
        rintro e W4 ⟨rfl, hQ4⟩
        have hQn : DrQ D none (Dg.draftS a tt (i + 1)).1 (Dg.draftS a tt (i + 1)).2 u3 W4 := by rw [HST.out, HSL.out]; exact hQ4
        clear cx1 cx2 hRX hQ4
        have HQN := hide hQn
        obtain ⟨A9, n9, c9, v9, hS9, hF9, hN9⟩ := hQn
        obtain ⟨Ap, cp, e9, _, _⟩ := hS9.own.row
        obtain ⟨q9, hq9⟩ : ∃ q, (Dg.draftS a tt (i + 1)).2.length = q := ⟨_, rfl⟩
        rw [hq9] at e9
        have hql : ¬ (100 : Int) < (q9 : Int) := by
         have := (Dg.draft_at HOK.out (i + 1) (by omega)).2.2.2
         rw [hq9] at this
         omega
        subst e9
        have cD : W4.cell? ⟨D, 1, none⟩ = some (.slice Ap q9 cp) := cell_of_row _ _ 1 _ _ _ hS9.row
        clear hS9 hF9 hN9 hq9
        go_wp2_with fail
        clear cD
        go_roundw
        case rel => exact ⟨i + 1, by omega, by go_num, HQN.out⟩
        case measure => simp [intOf]; omega
       | some k =>
        have hk0 : K0 = (k : Int) := by rw [← HK0.out, idxI_find, hix]
        subst hk0
        have hsl2 := Dg.step_old (s := s0) hil HX.out hix
        rw [HR.out] at hsl2
        have HSL := hide hsl2
        have HIX := hide hix
        obtain ⟨hks, _⟩ := Dg.idxI_some hix
        clear hix hsl2 HIX
        have hRX := hide (range_of HX3.out 0 [.int .i64 x.1, .string x.2, .string x.3, .string x.4, .string x.5, .string x.6, .bool x.7] rfl)
        have k0 : (0 : Int) ≤ (k : Int) := by omega
        go_wp2_with (with_reducible refine wpList_load_mid rfl 37 (.tmp 11) rfl b11 0 rfl _ _ hRX.out Try.underlying37 rfl (by kernel_rfl) ?_)
        obtain ⟨A4, n4, c4, v4, hS4, hF4, hN4⟩ := HQ3.out
        have hn4 := hS4.len
        refine (change_of D s0 p0 A4 n4 c4 v4 (by omega) (Nat.le_trans HPL.out (by omega)) k (by omega) x (s0.getD k Dg.zeroI) HXW.out R HRZ.out rfl _ rfl s' (HSL.out ▸ HRUN.out) W3 hS4).mono ?_
        rintro e W4 ⟨rfl, A5, n5, c5, v5, hS5, hF5, hN5⟩
        have hQn : DrQ D none (Dg.draftS a tt (i + 1)).1 (Dg.draftS a tt (i + 1)).2 u3 W4 := by
         rw [HST.out, HSL.out]
         exact ⟨A5, n5, c5, v5, hS5, hF4.trans hF5 hN4, hN4.trans hN5 hF4.below.size⟩
        clear hRX hS4 hF4 hN4 hn4 hS5 hF5 hN5
        have HQN := hide hQn
        obtain ⟨A9, n9, c9, v9, hS9, hF9, hN9⟩ := hQn
        obtain ⟨Ap, cp, e9, _, _⟩ := hS9.own.row
        obtain ⟨q9, hq9⟩ : ∃ q, (Dg.draftS a tt (i + 1)).2.length = q := ⟨_, rfl⟩
        rw [hq9] at e9
        have hql : ¬ (100 : Int) < (q9 : Int) := by
         have := (Dg.draft_at HOK.out (i + 1) (by omega)).2.2.2
         rw [hq9] at this
         omega
        subst e9
        have cD : W4.cell? ⟨D, 1, none⟩ = some (.slice Ap q9 cp) := cell_of_row _ _ 1 _ _ _ hS9.row
        clear hS9 hF9 hN9 hq9
        go_wp2_with fail
        clear cD
        go_roundw
        case rel => exact ⟨i + 1, by omega, by go_num, HQN.out⟩
        case measure => simp [intOf]; omega
     ·obtain rfl : i = m := by omega
      obtain ⟨A', n', c', v, hS, hF, hN⟩ := hQ
      have cD : wr.cell? ⟨D, 1, none⟩ = some v := cell_of_row _ _ 1 _ _ _ hS.row
      have hOw := hide (show Own1 ptL 39 wr w.heap.size v (Dg.draftS a tt tt.length).2 by rw [HM.out]; exact own_weak hS.own (by omega))
      have hBw := hbD.trans (hF.below.mono (show w.heap.size ≤ D by omega))
      clear hS hF hN hQ0
      go_wp2
      refine bodyPost_ret (results_tmp2 rfl _ _ _) rfl ?_
      exact ⟨.inr (.inr ⟨HQ1.out, HQ2.out, _, rfl, hOw.out⟩), hBw⟩
end Go.Proofs.Ytgmimhgeigbpkaa
/- Same of the reference for codes: the walk. No conditions but those that each theorem states. -/
namespace Go.Proofs.Ytgmimhgeigbpkaa
open Go Go.RowKit Go.Sort Go.Maps
attribute [-go_sem] run_neq_struct in
set_option maxRecDepth 100000 in
set_option maxHeartbeats 8000000 in
theorem same18_of (l m : List Dg.It) (A B : Option Addr) (n c k d : Nat) (hl : l.length = n) (hm : m.length = k) (hn : n ≤ 9223372036854775807) (hk : k ≤ 9223372036854775807) (w : World) (hI : Its w w.heap.size A l) (hJ : Its w w.heap.size B m) (R : Bool) (hR : R = true ↔ l = m) :
  Calls Try.prog 9 #[.agg #[.slice A n c], .agg #[.slice B k d]] w fun e w' => e = .returned (.bool R) ∧ Below w.heap.size w w' := by
 have hx1 := Below.news (Below.refl w.heap.size w) (.cells #[.slice A n c] 24)
 have hx2 := bnext hx1 (Below.news (Below.refl (w.alloc (.cells #[.slice A n c] 24)).heap.size (w.alloc (.cells #[.slice A n c] 24))) (.cells #[.slice B k d] 24))
 have hr1 := iNext (heap_alloc_new w (.cells #[.slice A n c] 24)) (Below.news (Below.refl (w.alloc (.cells #[.slice A n c] 24)).heap.size (w.alloc (.cells #[.slice A n c] 24))) (.cells #[.slice B k d] 24))
 have hr2 := heap_alloc_new (w.alloc (.cells #[.slice A n c] 24)) (.cells #[.slice B k d] 24)
 have hI2 := hI.keep hx2
 have hJ2 := hJ.keep hx2
 have hz1 : (w.alloc (.cells #[.slice A n c] 24)).heap.size = w.heap.size + 1 := by simp
 rw [hz1] at hr2
 clear hx1 hI hJ hz1
 have HL := hide hl; have HM := hide hm; have HR := hide hR
 clear hl hm hR
 go_enter Try.func9, Try.ntmps9
 go_upto_region 1 with (fail)
 generalize (w.alloc (.cells #[.slice A n c] 24)).alloc (.cells #[.slice B k d] 24) = w2 at *
 have hc1 := iCells0 hr1
 have hc2 := iCells0 hr2
 by_cases hnk : n = k
 ·obtain rfl := hnk
  go_wp2
  clear hc1 hc2
  go_loopw [5] (fun iv wr => ∃ j : Nat, j ≤ n ∧ iv = .int .i64 (j : Int) ∧ Below w.heap.size w wr ∧ Below w2.heap.size w2 wr ∧ Hid (∀ i, i < j → l[i]? = m[i]?)) (fun iv _ => n - (intOf iv).toNat)
  case atStart => exact ⟨0, by omega, rfl, hx2, Below.refl _ _, fun i hi => absurd hi (by omega)⟩
  case round =>
   obtain ⟨j, hj, rfl, hb, hb2, hall⟩ := hrel
   have hc1 := iCells0 (iNext hr1 hb2)
   have hc2 := iCells0 (iNext hr2 hb2)
   have hIr := hI2.keep hb2
   have hJr := hJ2.keep hb2
   by_cases hlt : j < n
   ·have hjn : (j : Int) < (n : Int) := by omega
    have hj0 : (0 : Int) ≤ (j : Int) := by omega
    have hjl : j < l.length := by rw [HL.out]; exact hlt
    have hjm : j < m.length := by rw [HM.out]; exact hlt
    obtain ⟨ba, oa, rfl⟩ := hIr.some hjl
    obtain ⟨bb, ob, rfl⟩ := hJr.some hjm
    obtain ⟨x, hx⟩ : ∃ x, l[j] = x := ⟨_, rfl⟩
    obtain ⟨y, hy⟩ : ∃ y, m[j] = y := ⟨_, rfl⟩
    obtain ⟨_, p0, p1, p2, p3, p4, p5, p6⟩ := hIr.cells hjl x hx
    obtain ⟨_, q0, q1, q2, q3, q4, q5, q6⟩ := hJr.cells hjm y hy
    have HX := hide hx; have HY := hide hy
    clear hx hy hIr hJr hI2 hJ2
    obtain ⟨S, hS⟩ : ∃ S, sameI x y = S := ⟨_, rfl⟩
    have hneq : ∀ wx, (binOp .neq 37 (.agg #[.int .i64 x.1, .string x.2, .string x.3, .string x.4, .string x.5, .string x.6, .bool x.7]) (.agg #[.int .i64 y.1, .string y.2, .string y.3, .string y.4, .string y.5, .string y.6, .bool y.7])).run Try.prog wx = .ok (.bool (!S)) wx := fun wx => by rw [← hS]; exact item_run wx x y
    have HS := hide hS
    clear hS
    have hqg : Try.prog.eqGuardType Try.prog.depth 37 = false := by kernel_rfl
    go_upto_region 6 with (fail)
    go_quiet (fail)
    have hbn := below_drewN (Below.refl wr.heap.size wr) nq
    cases S with
    | true =>
     go_wp2
     go_roundw
     case rel => exact ⟨j + 1, by omega, by go_num, bnext hb hbn, bnext hb2 hbn, fun i hi => by
      rcases Nat.lt_or_eq_of_le (Nat.le_of_lt_succ hi) with h | h
      ·exact hall.out i h
      ·rw [h, List.getElem?_eq_getElem hjl, List.getElem?_eq_getElem hjm, HX.out, HY.out, (sameI_iff x y).1 HS.out]⟩
     case measure => simp [intOf]; omega
    | false =>
     have E9 := hide (show false = R by
      cases hr9 : R with
      | false => rfl
      | true =>
       have h9 := HR.out.1 hr9
       have h8 : x = y := by rw [← HX.out, ← HY.out]; simp only [h9]
       rw [(sameI_iff x y).2 h8] at HS
       exact absurd HS.out (by decide))
     go_wp2
     go_ret
     exact ⟨ret_bool E9.out, bnext hb hbn⟩
   ·obtain rfl : n = j := by omega
    have E9 := hide (show true = R from (HR.out.2 (List.ext_getElem? fun i => by
     by_cases hi : i < n
     ·exact hall.out i hi
     ·rw [List.getElem?_eq_none (by rw [HL.out]; omega), List.getElem?_eq_none (by rw [HM.out]; omega)])).symm)
    go_wp2
    go_ret
    exact ⟨ret_bool E9.out, hb⟩
 ·have hnk' : ¬ (n : Int) = (k : Int) := by omega
  have E9 := hide (show false = R by
   cases hr9 : R with
   | false => rfl
   | true => exact absurd (by rw [← HL.out, ← HM.out, HR.out.1 hr9]) hnk)
  clear hnk
  go_wp2
  go_ret
  exact ⟨ret_bool E9.out, hx2⟩
end Go.Proofs.Ytgmimhgeigbpkaa
/- w21Code of the law. No conditions but those that each theorem states. -/
namespace Go.Proofs.Ytgmimhgeigbpkaa
open Go Go.RowKit Go.Sort Go.Maps
/-- An article of the code. -/
def art21 (d : ByteArray) : Dg.It := ⟨2, d, Dg.nil8, Dg.nil8, ⟨#[110]⟩, ⟨#[115]⟩, false⟩
def ids21 : List ByteArray := [⟨#[112, 49]⟩, ⟨#[112, 50]⟩, ⟨#[112, 51]⟩]
def c21 : List Dg.It := ids21.map art21
theorem row_it (w : World) (x : Dg.It) (ty : TypeId) : Row1 iLay (w.alloc (.cells #[.int .i64 x.1, .string x.2, .string x.3, .string x.4, .string x.5, .string x.6, .bool x.7] ty)) (w.heap.size + 1) (some ⟨w.heap.size, 0, none⟩) [x] := ⟨fun _ => ⟨w.heap.size, 0, rfl, by omega, fun j u hu => by
 rw [cell_of_row _ _ _ _ _ _ (heap_alloc_new w _), ← Array.getElem?_toList]
 rw [Nat.zero_add]
 have e : iLay.flat [x] = [.int .i64 x.1, .string x.2, .string x.3, .string x.4, .string x.5, .string x.6, .bool x.7] := by rfl
 rw [e] at hu
 exact hu⟩⟩
/-- The variables of w21Code. -/
structure C21 (g : Nat) (v : Value) (k : Nat) (X : World) : Prop where
 r0 : X.heap[g]? = some (.cells #[.slice none 0 0] 24 (0, 0))
 r1 : X.heap[g + 1]? = some (.cells #[v] 24 (0, 0))
 r2 : X.heap[g + 1 + 1]? = some (.cells #[.string ⟨#[112, 49]⟩, .string ⟨#[112, 50]⟩, .string ⟨#[112, 51]⟩] 9 (0, 0))
 own : Own1 iLay 37 X (g + 1 + 1 + 1) v (c21.take k)
 up : True
theorem ids_cell {g : Nat} {v : Value} {k : Nat} {X : World} (h : C21 g v k X) {j : Nat} (d : ByteArray) (hd : ids21[j]? = some d) : X.cell? ⟨g + 1 + 1, j, none⟩ = some (.string d) := by
 rw [cell_of_row _ _ _ _ _ (0, 0) h.r2, ← Array.getElem?_toList]
 match j, hd with
 | 0, hd => cases hd; rfl
 | 1, hd => cases hd; rfl
 | 2, hd => cases hd; rfl
 | j + 3, hd => simp [ids21] at hd
set_option maxRecDepth 100000 in
set_option maxHeartbeats 16000000 in
attribute [-go_sem] Instr.storeAt in
theorem code21_of (w : World) : Calls Try.prog 12 #[] w fun e w' => (∃ v, e = .returned (.agg #[v]) ∧ Own1 iLay 37 w' w.heap.size v c21) ∧ Below w.heap.size w w' := by
 obtain ⟨q0, q1, q2, hb, _⟩ := iAlloc3 w (.cells #[.slice none 0 0] 24) (.cells #[.slice none 0 0] 24) (.cells #[.string ⟨#[112, 49]⟩, .string ⟨#[112, 50]⟩, .string ⟨#[112, 51]⟩] 9)
 go_enter Try.func12, Try.ntmps12
 go_wp2_with (fail)
 generalize ((w.alloc (.cells #[.slice none 0 0] 24)).alloc (.cells #[.slice none 0 0] 24)).alloc (.cells #[.string ⟨#[112, 49]⟩, .string ⟨#[112, 50]⟩, .string ⟨#[112, 51]⟩] 9) = w1 at *
 obtain ⟨g, hg⟩ : ∃ g, g = w.heap.size := ⟨_, rfl⟩
 rw [← hg] at q0 q1 q2 hb ⊢
 have HG := hide hg
 have HS := hide (show C21 g (.slice none 0 0) 0 w1 from ⟨q0, q1, q2, Own1.nil _ _ _ _, trivial⟩)
 have HB := hide hb
 clear q0 q1 q2 hb hg
 go_loopw [6] (fun iv wr => ∃ (k : Nat) (v : Value), k ≤ 3 ∧ iv = .int .i64 k ∧ Hid (C21 g v k wr) ∧ Hid (Below g w wr)) (fun iv _ => 3 - (intOf iv).toNat)
 case atStart => exact ⟨0, _, by omega, rfl, HS, HB⟩
 case round =>
  clear HS HB
  obtain ⟨k, v, hk, rfl, HS, HB⟩ := hrel
  by_cases hlt : k < 3
  ·obtain ⟨d, hd⟩ : ∃ d, ids21[k]? = some d := ⟨_, List.getElem?_eq_getElem (show k < ids21.length from hlt)⟩
   have cd := ids_cell HS.out d hd
   have c1 := iCells0 HS.out.r1
   have k0 : (0 : Int) ≤ (k : Int) := by omega
   have k1 : (k : Int) < 3 := by omega
   have hck : c21.take (k + 1) = c21.take k ++ [art21 d] := by
    match k, hlt, hd with
    | 0, _, hd => cases hd; rfl
    | 1, _, hd => cases hd; rfl
    | 2, _, hd => cases hd; rfl
   have HCK := hide hck
   have hbn := Below.news (Below.refl wr.heap.size wr) (.cells #[.int .i64 2, .string d, .string ⟨#[]⟩, .string ⟨#[]⟩, .string ⟨#[110]⟩, .string ⟨#[115]⟩, .bool false] 37)
   have ho1 := HS.out.own.below hbn
   have rb : Row1 iLay (wr.alloc (.cells #[.int .i64 2, .string d, .string ⟨#[]⟩, .string ⟨#[]⟩, .string ⟨#[110]⟩, .string ⟨#[115]⟩, .bool false] 37)) (wr.heap.size + 1) (some ⟨wr.heap.size, 0, none⟩) [art21 d] := row_it wr (art21 d) 37
   have htop := lt_of_block HS.out.r2
   have hsz : g + 1 + 1 + 1 ≤ (wr.alloc (.cells #[.int .i64 2, .string d, .string ⟨#[]⟩, .string ⟨#[]⟩, .string ⟨#[110]⟩, .string ⟨#[115]⟩, .bool false] 37)).heap.size := by rw [World.size_alloc]; omega
   have hln : (c21.take k).length + 1 ≤ 4294967296 := by have : (c21.take k).length ≤ k := List.length_take_le _ _; omega
   have HBN := hide hbn
   clear hck hd hbn
   go_wp2_with (at_builtin; go_loud (refine step_app1 (L := iLay) rfl (.tmp 11) (.tmp 14) 22 37 _ 96 rfl Try.underlying22 iInfo rfl (by decide) (g + 1 + 1 + 1) (wr.heap.size + 1) _ (c21.take k) [art21 d] rfl ho1 (some ⟨wr.heap.size, 0, none⟩) 1 1 rfl rfl rb hln (by decide) hsz ?_))
   intro v1 w1 h1 h2 h3 h4
   have htp := HBN.out.size
   have hkeep : ∀ q, q ≤ g + 1 + 1 → w1.heap[q]? = wr.heap[q]? := fun q hq => (h3.block q (by omega) (fun e => by
    have := (World.ownsRow.lt HS.out.own q e.symm).1
    omega)).trans (HBN.out.block q (by omega))
   obtain ⟨A6, c6, hv6, _, _⟩ := h1.row
   generalize (c21.take k ++ [art21 d]).length = n6 at hv6
   subst hv6
   have q1 := (hkeep (g + 1) (by omega)).trans HS.out.r1
   have hst := store_part (ty := 22) w1 (g + 1) 0 #[v] (.slice A6 n6 c6) #[.slice A6 n6 c6] q1 (by kernel_rfl) (Nat.le_refl _) (one_sl _ _ _) rfl
   have hO6 : Own1 iLay 37 (w1.setRow (g + 1) #[.slice A6 n6 c6]) (g + 1 + 1 + 1) (.slice A6 n6 c6) (c21.take (k + 1)) := by
    rw [HCK.out]
    refine own_other h1 (fun e => ?_) _
    have := (World.ownsRow.lt h1 (g + 1) e).1
    omega
   have HS2 := hide (show C21 g (.slice A6 n6 c6) (k + 1) (w1.setRow (g + 1) #[.slice A6 n6 c6]) from ⟨(setRow_other w1 (g + 1) g _ (by omega)).trans ((hkeep g (by omega)).trans HS.out.r0), setRow_heap w1 (g + 1) _ _ _ _ q1, (setRow_other w1 (g + 1) _ _ (by omega)).trans ((hkeep (g + 1 + 1) (by omega)).trans HS.out.r2), hO6, trivial⟩)
   have HB2 := hide (below_setRow ((HB.out.trans (HBN.out.mono (by omega))).trans (h2.mono (by omega))) (by omega) (g := g + 1) #[.slice A6 n6 c6])
   clear hO6 h1 h2 h3 h4 hkeep q1 ho1 rb hsz hln cd c1 htp
   go_wp2_with (fail)
   clear hst
   go_roundw
   case rel => exact ⟨k + 1, _, by omega, by go_num, HS2, HB2⟩
   case measure => simp [intOf]; omega
  ·obtain rfl : k = 3 := by omega
   obtain ⟨A6, c6, hv6, _, _⟩ := HS.out.own.row
   generalize (c21.take 3).length = n6 at hv6
   subst hv6
   have c1 := iCells0 HS.out.r1
   have hst := store_part (ty := 24) wr g 0 #[.slice none 0 0] (.agg #[.slice A6 n6 c6]) #[.slice A6 n6 c6] HS.out.r0 infoCode1 (Nat.le_refl _) (one_code _ _ _) rfl
   have r5 := setRow_heap wr g _ #[.slice A6 n6 c6] _ _ HS.out.r0
   have hO5 : Own1 iLay 37 (wr.setRow g #[.slice A6 n6 c6]) (g + 1 + 1 + 1) (.slice A6 n6 c6) c21 := own_other HS.out.own (fun e => by
    have := (World.ownsRow.lt HS.out.own g e).1
    omega) _
   have hb5 := below_setRow HB.out (Nat.le_refl g) (g := g) #[.slice A6 n6 c6]
   go_wp2_with (fail)
   refine bodyPost_ret (results_cell_row (P := Try.prog) Try.results12 _ _ g 24 #[.slice A6 n6 c6] (0, 0) _ rfl r5 Try.underlying24 rfl (by kernel_rfl)) rfl ?_
   rw [← HG.out]
   exact ⟨⟨_, rfl, own_weak hO5 (by omega)⟩, hb5⟩
end Go.Proofs.Ytgmimhgeigbpkaa
/- Invert of package patch, where the patch is possible. No conditions but those that each theorem states. -/
namespace Go.Proofs.Ytgmimhgeigbpkaa
open Go Go.RowKit Go.Sort Go.Maps
theorem zeros15_one : (#[.int .i64 0, .string ⟨#[]⟩, .string ⟨#[]⟩, .string ⟨#[]⟩, .string ⟨#[]⟩, .int .i64 0, .string ⟨#[]⟩, .string ⟨#[]⟩, .string ⟨#[]⟩, .string ⟨#[]⟩, .string ⟨#[]⟩, .bool false, .int .i64 0, .string ⟨#[]⟩, .string ⟨#[]⟩] : Array Value).all (·.oneCell') = true := all_oneCell_toArray (ptL.one (Dg.barePt 0 Dg.nil8))
/-- The variables of Invert. -/
structure InS (b0 : Nat) (A : Option Addr) (n c : Nat) (l : List Dg.It) (p : Dg.Pt) (X : World) : Prop where
 r1 : X.heap[b0]? = some (.cells #[.slice A n c] 24 (0, 0))
 r2 : X.heap[b0 + 1]? = some (.cells #[.int .i64 p.1, .string p.2, .string p.3, .string p.4, .string p.5, .int .i64 p.6.1, .string p.6.2, .string p.6.3, .string p.6.4, .string p.6.5, .string p.6.6, .bool p.6.7, .int .i64 p.7, .string p.8, .string p.9] 39 (0, 0))
 r3 : X.heap[b0 + 1 + 1]? = some (.cells #[.int .i64 0, .string ⟨#[]⟩, .string ⟨#[]⟩, .string ⟨#[]⟩, .string ⟨#[]⟩, .int .i64 0, .string ⟨#[]⟩, .string ⟨#[]⟩, .string ⟨#[]⟩, .string ⟨#[]⟩, .string ⟨#[]⟩, .bool false, .int .i64 0, .string ⟨#[]⟩, .string ⟨#[]⟩] 39 (0, 0))
 its : Its X b0 A l
theorem InS.below {b0 : Nat} {A : Option Addr} {n c : Nat} {l : List Dg.It} {p : Dg.Pt} {X X' : World} (h : InS b0 A n c l p X) (hb : Below X.heap.size X X') : InS b0 A n c l p X' := ⟨iNext h.r1 hb, iNext h.r2 hb, iNext h.r3 hb, h.its.below (hb.mono (Nat.le_of_lt (lt_of_block h.r1)))⟩
theorem InS.row {b0 : Nat} {A : Option Addr} {n c : Nat} {l : List Dg.It} {p : Dg.Pt} {X : World} (h : InS b0 A n c l p X) {g : Nat} (hg : b0 + 1 + 1 < g) (cs : Array Value) : InS b0 A n c l p (X.setRow g cs) := ⟨(setRow_other X g b0 _ (by omega)).trans h.r1, (setRow_other X g _ _ (by omega)).trans h.r2, (setRow_other X g _ _ (by omega)).trans h.r3, h.its.below (below_setRow (Below.refl _ _) (by omega) _)⟩
set_option maxRecDepth 100000 in
set_option maxHeartbeats 16000000 in
attribute [-go_sem] Instr.storeAt in
theorem inv_ins (l : List Dg.It) (A : Option Addr) (n c : Nat) (hl : l.length = n) (hn : n ≤ 1048576) (hnc : n ≤ c) (hv : Dg.validC l = true) (p : Dg.Pt) (hp : PtW p) (h2 : p.kind ≠ 2) (l2 : List Dg.It) (ha : Dg.applyP l p = (l2, 0)) (k1 : (p.kind == 1) = true) (w : World) (hI : Its w w.heap.size A l) :
  Calls Try.prog 10 #[.agg #[.slice A n c], .agg #[.int .i64 p.1, .string p.2, .string p.3, .string p.4, .string p.5, .int .i64 p.6.1, .string p.6.2, .string p.6.3, .string p.6.4, .string p.6.5, .string p.6.6, .bool p.6.7, .int .i64 p.7, .string p.8, .string p.9]] w fun e w' => e = .returned (.tuple #[.agg #[.int .i64 0, .string ⟨#[]⟩, .string ⟨#[]⟩, .string ⟨#[]⟩, .string ⟨#[]⟩, .int .i64 0, .string ⟨#[]⟩, .string ⟨#[]⟩, .string ⟨#[]⟩, .string ⟨#[]⟩, .string ⟨#[]⟩, .bool false, .int .i64 0, .string ⟨#[]⟩, .string ⟨#[]⟩], .int .i64 12]) ∧ Below w.heap.size w w' := by
 obtain ⟨r1, r2, r3, hb1, hs⟩ := iAlloc3 w (.cells #[.slice A n c] 24) (.cells #[.int .i64 p.1, .string p.2, .string p.3, .string p.4, .string p.5, .int .i64 p.6.1, .string p.6.2, .string p.6.3, .string p.6.4, .string p.6.5, .string p.6.6, .bool p.6.7, .int .i64 p.7, .string p.8, .string p.9] 39) (.cells #[.int .i64 0, .string ⟨#[]⟩, .string ⟨#[]⟩, .string ⟨#[]⟩, .string ⟨#[]⟩, .int .i64 0, .string ⟨#[]⟩, .string ⟨#[]⟩, .string ⟨#[]⟩, .string ⟨#[]⟩, .string ⟨#[]⟩, .bool false, .int .i64 0, .string ⟨#[]⟩, .string ⟨#[]⟩] 39)
 have hmx : Try.prog.follows .mixedOrders = true := by kernel_rfl
 have hS1 : InS w.heap.size A n c l p (((w.alloc (.cells #[.slice A n c] 24)).alloc (.cells #[.int .i64 p.1, .string p.2, .string p.3, .string p.4, .string p.5, .int .i64 p.6.1, .string p.6.2, .string p.6.3, .string p.6.4, .string p.6.5, .string p.6.6, .bool p.6.7, .int .i64 p.7, .string p.8, .string p.9] 39)).alloc (.cells #[.int .i64 0, .string ⟨#[]⟩, .string ⟨#[]⟩, .string ⟨#[]⟩, .string ⟨#[]⟩, .int .i64 0, .string ⟨#[]⟩, .string ⟨#[]⟩, .string ⟨#[]⟩, .string ⟨#[]⟩, .string ⟨#[]⟩, .bool false, .int .i64 0, .string ⟨#[]⟩, .string ⟨#[]⟩] 39)) := ⟨r1, r2, r3, hI.below hb1⟩
 have HL := hide hl; have HV := hide hv; have HP := hide hp; have H2 := hide h2; have HA := hide ha; have HS := hide hs
 clear r1 r2 r3 hI hl hv hp h2 ha hs
 have c1 := iCells0 hS1.r1
 go_enter Try.func10, Try.ntmps10
 go_upto_region 1 with (fail)
 generalize ((w.alloc (.cells #[.slice A n c] 24)).alloc (.cells #[.int .i64 p.1, .string p.2, .string p.3, .string p.4, .string p.5, .int .i64 p.6.1, .string p.6.2, .string p.6.3, .string p.6.4, .string p.6.5, .string p.6.6, .bool p.6.7, .int .i64 p.7, .string p.8, .string p.9] 39)).alloc (.cells #[.int .i64 0, .string ⟨#[]⟩, .string ⟨#[]⟩, .string ⟨#[]⟩, .string ⟨#[]⟩, .int .i64 0, .string ⟨#[]⟩, .string ⟨#[]⟩, .string ⟨#[]⟩, .string ⟨#[]⟩, .string ⟨#[]⟩, .bool false, .int .i64 0, .string ⟨#[]⟩, .string ⟨#[]⟩] 39) = w1 at *
 have hL3 := hide (range_of hS1.r2 0 [.int .i64 p.1, .string p.2, .string p.3, .string p.4, .string p.5, .int .i64 p.6.1, .string p.6.2, .string p.6.3, .string p.6.4, .string p.6.5, .string p.6.6, .bool p.6.7, .int .i64 p.7, .string p.8, .string p.9] rfl)
 have hsz1 : w.heap.size + 1 + 1 < w1.heap.size := lt_of_block hS1.r3
 go_wp2_with (with_reducible refine wpList_load_mid rfl 39 (.tmp 3) rfl (w.heap.size + 1) 0 rfl _ _ hL3.out Try.underlying39 rfl (by kernel_rfl) ?_)
 refine (apply_of l A n c HL.out hn hnc (valid_itw HV.out) p HP.out H2.out w1 (hS1.its.more (by omega))).mono ?_
 rintro e w2 ⟨v', rfl, hO, hbq⟩
 rw [HA.out] at hO ⊢
 obtain ⟨A6, c6, rfl, _, _⟩ := hO.row
 generalize l2.length = n6 at *
 have hS2 := hS1.below hbq
 have hb2 := bnext hb1 hbq
 have hsz2 : w.heap.size + 1 + 1 < w2.heap.size := lt_of_block hS2.r3
 clear hbq hS1 hb1 c1 hL3 hO hsz1
 have hst := store_new (ty := 24) (T := 24) w2 #[.slice none 0 0] #[.slice A6 n6 c6] infoCode1 rfl (by simp [Value.oneCell'])
 go_upto_region 4 with (fail)
 clear hst
 have hbn := Below.news (Below.refl w2.heap.size w2) (.cells #[.slice A6 n6 c6] 24)
 have hS3 := hS2.below hbn
 have hb3 := bnext hb2 hbn
 have hsz3 : w.heap.size + 1 + 1 < (w2.alloc (.cells #[.slice A6 n6 c6] 24)).heap.size := lt_of_block hS3.r3
 clear hbn hS2 hb2 hsz2
 obtain ⟨b6, hb6⟩ : ∃ b6, b6 = w2.heap.size := ⟨_, rfl⟩
 rw [← hb6]
 clear hb6
 generalize w2.alloc (.cells #[.slice A6 n6 c6] 24) = w3 at *
 have c3k : w3.cell? ⟨w.heap.size + 1, 0, none⟩ = some (.int .i64 p.kind) := (jC15 hS3.r2).1
 have c3i : w3.cell? ⟨w.heap.size + 1, 1, none⟩ = some (.string p.id) := (jC15 hS3.r2).2.1
 have hst := store_new (ty := 39) (T := 39) w3 #[.int .i64 0, .string ⟨#[]⟩, .string ⟨#[]⟩, .string ⟨#[]⟩, .string ⟨#[]⟩, .int .i64 0, .string ⟨#[]⟩, .string ⟨#[]⟩, .string ⟨#[]⟩, .string ⟨#[]⟩, .string ⟨#[]⟩, .bool false, .int .i64 0, .string ⟨#[]⟩, .string ⟨#[]⟩] #[.int .i64 p.kind, .string p.id, .string ⟨#[]⟩, .string ⟨#[]⟩, .string ⟨#[]⟩, .int .i64 0, .string ⟨#[]⟩, .string ⟨#[]⟩, .string ⟨#[]⟩, .string ⟨#[]⟩, .string ⟨#[]⟩, .bool false, .int .i64 0, .string ⟨#[]⟩, .string ⟨#[]⟩] (by kernel_rfl) rfl (all_oneCell_toArray (ptL.one (Dg.barePt p.kind p.id)))
 go_upto_region 5 with (fail)
 clear hst c3k c3i
 have hbn := Below.news (Below.refl w3.heap.size w3) (.cells #[.int .i64 p.kind, .string p.id, .string ⟨#[]⟩, .string ⟨#[]⟩, .string ⟨#[]⟩, .int .i64 0, .string ⟨#[]⟩, .string ⟨#[]⟩, .string ⟨#[]⟩, .string ⟨#[]⟩, .string ⟨#[]⟩, .bool false, .int .i64 0, .string ⟨#[]⟩, .string ⟨#[]⟩] 39)
 have r8 := heap_alloc_new w3 (.cells #[.int .i64 p.kind, .string p.id, .string ⟨#[]⟩, .string ⟨#[]⟩, .string ⟨#[]⟩, .int .i64 0, .string ⟨#[]⟩, .string ⟨#[]⟩, .string ⟨#[]⟩, .string ⟨#[]⟩, .string ⟨#[]⟩, .bool false, .int .i64 0, .string ⟨#[]⟩, .string ⟨#[]⟩] 39)
 have hS4 := hS3.below hbn
 have hb4 := bnext hb3 hbn
 clear hbn hS3 hb3
 obtain ⟨b8, hb8⟩ : ∃ b8, b8 = w3.heap.size := ⟨_, rfl⟩
 rw [← hb8] at r8 hsz3 ⊢
 clear hb8
 generalize w3.alloc (.cells #[.int .i64 p.kind, .string p.id, .string ⟨#[]⟩, .string ⟨#[]⟩, .string ⟨#[]⟩, .int .i64 0, .string ⟨#[]⟩, .string ⟨#[]⟩, .string ⟨#[]⟩, .string ⟨#[]⟩, .string ⟨#[]⟩, .bool false, .int .i64 0, .string ⟨#[]⟩, .string ⟨#[]⟩] 39) = w4 at *
 have hsz8 := lt_of_block r8
 have c4k : w4.cell? ⟨w.heap.size + 1, 0, none⟩ = some (.int .i64 p.kind) := (jC15 hS4.r2).1
 have hst := store_row (ty := 39) w4 (w.heap.size + 1 + 1) #[.int .i64 0, .string ⟨#[]⟩, .string ⟨#[]⟩, .string ⟨#[]⟩, .string ⟨#[]⟩, .int .i64 0, .string ⟨#[]⟩, .string ⟨#[]⟩, .string ⟨#[]⟩, .string ⟨#[]⟩, .string ⟨#[]⟩, .bool false, .int .i64 0, .string ⟨#[]⟩, .string ⟨#[]⟩] #[.int .i64 0, .string ⟨#[]⟩, .string ⟨#[]⟩, .string ⟨#[]⟩, .string ⟨#[]⟩, .int .i64 0, .string ⟨#[]⟩, .string ⟨#[]⟩, .string ⟨#[]⟩, .string ⟨#[]⟩, .string ⟨#[]⟩, .bool false, .int .i64 0, .string ⟨#[]⟩, .string ⟨#[]⟩] hS4.r3 (by kernel_rfl) rfl zeros15_one
 have r25 := setRow_heap w4 (w.heap.size + 1 + 1) _ #[.int .i64 0, .string ⟨#[]⟩, .string ⟨#[]⟩, .string ⟨#[]⟩, .string ⟨#[]⟩, .int .i64 0, .string ⟨#[]⟩, .string ⟨#[]⟩, .string ⟨#[]⟩, .string ⟨#[]⟩, .string ⟨#[]⟩, .bool false, .int .i64 0, .string ⟨#[]⟩, .string ⟨#[]⟩] _ _ hS4.r3
 have hb5 := below_setRow hb4 (by omega) (g := w.heap.size + 1 + 1) #[.int .i64 0, .string ⟨#[]⟩, .string ⟨#[]⟩, .string ⟨#[]⟩, .string ⟨#[]⟩, .int .i64 0, .string ⟨#[]⟩, .string ⟨#[]⟩, .string ⟨#[]⟩, .string ⟨#[]⟩, .string ⟨#[]⟩, .bool false, .int .i64 0, .string ⟨#[]⟩, .string ⟨#[]⟩]
 go_wp2
 refine bodyPost_ret (results_c8 Try.results10 _ _ (w.heap.size + 1 + 1) 39 #[.int .i64 0, .string ⟨#[]⟩, .string ⟨#[]⟩, .string ⟨#[]⟩, .string ⟨#[]⟩, .int .i64 0, .string ⟨#[]⟩, .string ⟨#[]⟩, .string ⟨#[]⟩, .string ⟨#[]⟩, .string ⟨#[]⟩, .bool false, .int .i64 0, .string ⟨#[]⟩, .string ⟨#[]⟩] (0, 0) _ rfl r25 Try.underlying39 (by kernel_rfl)) rfl ⟨rfl, hb5⟩
set_option maxRecDepth 100000 in
set_option maxHeartbeats 16000000 in
attribute [-go_sem] Instr.storeAt in
theorem inv_num (l : List Dg.It) (A : Option Addr) (n c : Nat) (hl : l.length = n) (hn : n ≤ 1048576) (hnc : n ≤ c) (hv : Dg.validC l = true) (p : Dg.Pt) (hp : PtW p) (h2 : p.kind ≠ 2) (l2 : List Dg.It) (ha : Dg.applyP l p = (l2, 0)) (k1 : (p.kind == 1) = false) (k2 : (p.kind == 2) = false) (k3 : (p.kind == 3) = true) (i : Nat) (hi : Dg.idxI l p.id = some i) (y : Dg.It) (hy : l.getD i Dg.zeroI = y) (w : World) (hI : Its w w.heap.size A l) :
  Calls Try.prog 10 #[.agg #[.slice A n c], .agg #[.int .i64 p.1, .string p.2, .string p.3, .string p.4, .string p.5, .int .i64 p.6.1, .string p.6.2, .string p.6.3, .string p.6.4, .string p.6.5, .string p.6.6, .bool p.6.7, .int .i64 p.7, .string p.8, .string p.9]] w fun e w' => e = .returned (.tuple #[.agg #[.int .i64 p.kind, .string p.id, .string ⟨#[]⟩, .string ⟨#[]⟩, .string y.number, .int .i64 0, .string ⟨#[]⟩, .string ⟨#[]⟩, .string ⟨#[]⟩, .string ⟨#[]⟩, .string ⟨#[]⟩, .bool false, .int .i64 0, .string ⟨#[]⟩, .string ⟨#[]⟩], .int .i64 0]) ∧ Below w.heap.size w w' := by
 obtain ⟨r1, r2, r3, hb1, hs⟩ := iAlloc3 w (.cells #[.slice A n c] 24) (.cells #[.int .i64 p.1, .string p.2, .string p.3, .string p.4, .string p.5, .int .i64 p.6.1, .string p.6.2, .string p.6.3, .string p.6.4, .string p.6.5, .string p.6.6, .bool p.6.7, .int .i64 p.7, .string p.8, .string p.9] 39) (.cells #[.int .i64 0, .string ⟨#[]⟩, .string ⟨#[]⟩, .string ⟨#[]⟩, .string ⟨#[]⟩, .int .i64 0, .string ⟨#[]⟩, .string ⟨#[]⟩, .string ⟨#[]⟩, .string ⟨#[]⟩, .string ⟨#[]⟩, .bool false, .int .i64 0, .string ⟨#[]⟩, .string ⟨#[]⟩] 39)
 have hmx : Try.prog.follows .mixedOrders = true := by kernel_rfl
 have hS1 : InS w.heap.size A n c l p (((w.alloc (.cells #[.slice A n c] 24)).alloc (.cells #[.int .i64 p.1, .string p.2, .string p.3, .string p.4, .string p.5, .int .i64 p.6.1, .string p.6.2, .string p.6.3, .string p.6.4, .string p.6.5, .string p.6.6, .bool p.6.7, .int .i64 p.7, .string p.8, .string p.9] 39)).alloc (.cells #[.int .i64 0, .string ⟨#[]⟩, .string ⟨#[]⟩, .string ⟨#[]⟩, .string ⟨#[]⟩, .int .i64 0, .string ⟨#[]⟩, .string ⟨#[]⟩, .string ⟨#[]⟩, .string ⟨#[]⟩, .string ⟨#[]⟩, .bool false, .int .i64 0, .string ⟨#[]⟩, .string ⟨#[]⟩] 39)) := ⟨r1, r2, r3, hI.below hb1⟩
 have HL := hide hl; have HV := hide hv; have HP := hide hp; have H2 := hide h2; have HA := hide ha; have HS := hide hs
 clear r1 r2 r3 hI hl hv hp h2 ha hs
 have HI := hide hi; have HY := hide hy
 clear hi hy
 have c1 := iCells0 hS1.r1
 go_enter Try.func10, Try.ntmps10
 go_upto_region 1 with (fail)
 generalize ((w.alloc (.cells #[.slice A n c] 24)).alloc (.cells #[.int .i64 p.1, .string p.2, .string p.3, .string p.4, .string p.5, .int .i64 p.6.1, .string p.6.2, .string p.6.3, .string p.6.4, .string p.6.5, .string p.6.6, .bool p.6.7, .int .i64 p.7, .string p.8, .string p.9] 39)).alloc (.cells #[.int .i64 0, .string ⟨#[]⟩, .string ⟨#[]⟩, .string ⟨#[]⟩, .string ⟨#[]⟩, .int .i64 0, .string ⟨#[]⟩, .string ⟨#[]⟩, .string ⟨#[]⟩, .string ⟨#[]⟩, .string ⟨#[]⟩, .bool false, .int .i64 0, .string ⟨#[]⟩, .string ⟨#[]⟩] 39) = w1 at *
 have hL3 := hide (range_of hS1.r2 0 [.int .i64 p.1, .string p.2, .string p.3, .string p.4, .string p.5, .int .i64 p.6.1, .string p.6.2, .string p.6.3, .string p.6.4, .string p.6.5, .string p.6.6, .bool p.6.7, .int .i64 p.7, .string p.8, .string p.9] rfl)
 have hsz1 : w.heap.size + 1 + 1 < w1.heap.size := lt_of_block hS1.r3
 go_wp2_with (with_reducible refine wpList_load_mid rfl 39 (.tmp 3) rfl (w.heap.size + 1) 0 rfl _ _ hL3.out Try.underlying39 rfl (by kernel_rfl) ?_)
 refine (apply_of l A n c HL.out hn hnc (valid_itw HV.out) p HP.out H2.out w1 (hS1.its.more (by omega))).mono ?_
 rintro e w2 ⟨v', rfl, hO, hbq⟩
 rw [HA.out] at hO ⊢
 obtain ⟨A6, c6, rfl, _, _⟩ := hO.row
 generalize l2.length = n6 at *
 have hS2 := hS1.below hbq
 have hb2 := bnext hb1 hbq
 have hsz2 : w.heap.size + 1 + 1 < w2.heap.size := lt_of_block hS2.r3
 clear hbq hS1 hb1 c1 hL3 hO hsz1
 have hst := store_new (ty := 24) (T := 24) w2 #[.slice none 0 0] #[.slice A6 n6 c6] infoCode1 rfl (by simp [Value.oneCell'])
 go_upto_region 4 with (fail)
 clear hst
 have hbn := Below.news (Below.refl w2.heap.size w2) (.cells #[.slice A6 n6 c6] 24)
 have hS3 := hS2.below hbn
 have hb3 := bnext hb2 hbn
 have hsz3 : w.heap.size + 1 + 1 < (w2.alloc (.cells #[.slice A6 n6 c6] 24)).heap.size := lt_of_block hS3.r3
 clear hbn hS2 hb2 hsz2
 obtain ⟨b6, hb6⟩ : ∃ b6, b6 = w2.heap.size := ⟨_, rfl⟩
 rw [← hb6]
 clear hb6
 generalize w2.alloc (.cells #[.slice A6 n6 c6] 24) = w3 at *
 have c3k : w3.cell? ⟨w.heap.size + 1, 0, none⟩ = some (.int .i64 p.kind) := (jC15 hS3.r2).1
 have c3i : w3.cell? ⟨w.heap.size + 1, 1, none⟩ = some (.string p.id) := (jC15 hS3.r2).2.1
 have hst := store_new (ty := 39) (T := 39) w3 #[.int .i64 0, .string ⟨#[]⟩, .string ⟨#[]⟩, .string ⟨#[]⟩, .string ⟨#[]⟩, .int .i64 0, .string ⟨#[]⟩, .string ⟨#[]⟩, .string ⟨#[]⟩, .string ⟨#[]⟩, .string ⟨#[]⟩, .bool false, .int .i64 0, .string ⟨#[]⟩, .string ⟨#[]⟩] #[.int .i64 p.kind, .string p.id, .string ⟨#[]⟩, .string ⟨#[]⟩, .string ⟨#[]⟩, .int .i64 0, .string ⟨#[]⟩, .string ⟨#[]⟩, .string ⟨#[]⟩, .string ⟨#[]⟩, .string ⟨#[]⟩, .bool false, .int .i64 0, .string ⟨#[]⟩, .string ⟨#[]⟩] (by kernel_rfl) rfl (all_oneCell_toArray (ptL.one (Dg.barePt p.kind p.id)))
 go_upto_region 5 with (fail)
 clear hst c3k c3i
 have hbn := Below.news (Below.refl w3.heap.size w3) (.cells #[.int .i64 p.kind, .string p.id, .string ⟨#[]⟩, .string ⟨#[]⟩, .string ⟨#[]⟩, .int .i64 0, .string ⟨#[]⟩, .string ⟨#[]⟩, .string ⟨#[]⟩, .string ⟨#[]⟩, .string ⟨#[]⟩, .bool false, .int .i64 0, .string ⟨#[]⟩, .string ⟨#[]⟩] 39)
 have r8 := heap_alloc_new w3 (.cells #[.int .i64 p.kind, .string p.id, .string ⟨#[]⟩, .string ⟨#[]⟩, .string ⟨#[]⟩, .int .i64 0, .string ⟨#[]⟩, .string ⟨#[]⟩, .string ⟨#[]⟩, .string ⟨#[]⟩, .string ⟨#[]⟩, .bool false, .int .i64 0, .string ⟨#[]⟩, .string ⟨#[]⟩] 39)
 have hS4 := hS3.below hbn
 have hb4 := bnext hb3 hbn
 clear hbn hS3 hb3
 obtain ⟨b8, hb8⟩ : ∃ b8, b8 = w3.heap.size := ⟨_, rfl⟩
 rw [← hb8] at r8 hsz3 ⊢
 clear hb8
 generalize w3.alloc (.cells #[.int .i64 p.kind, .string p.id, .string ⟨#[]⟩, .string ⟨#[]⟩, .string ⟨#[]⟩, .int .i64 0, .string ⟨#[]⟩, .string ⟨#[]⟩, .string ⟨#[]⟩, .string ⟨#[]⟩, .string ⟨#[]⟩, .bool false, .int .i64 0, .string ⟨#[]⟩, .string ⟨#[]⟩] 39) = w4 at *
 have hsz8 := lt_of_block r8
 have c4k : w4.cell? ⟨w.heap.size + 1, 0, none⟩ = some (.int .i64 p.kind) := (jC15 hS4.r2).1
 have c4i : w4.cell? ⟨w.heap.size + 1, 1, none⟩ = some (.string p.id) := (jC15 hS4.r2).2.1
 have c4c := iCells0 hS4.r1
 go_wp2_with (fail)
 refine (Code.find_of l A n c HL.out hn p.id w4 (hS4.its.more (by omega)) (i : Int) (findX_idx HI.out)).mono ?_
 rintro e w5 ⟨rfl, hbq⟩
 have hS5 := hS4.below hbq
 have hb5 := bnext hb4 hbq
 have r85 := iNext r8 hbq
 have hsz5 := lt_of_block r85
 clear hbq hS4 hb4 r8 c4k c4i c4c hsz8
 obtain ⟨hil, _⟩ := Dg.idxI_some HI.out
 have hyi : l[i] = y := by rw [← HY.out]; simp [List.getD_eq_getElem?_getD, hil]
 obtain ⟨b, off, hA⟩ := hS5.its.some hil
 subst hA
 have hRI := hide (show w5.rangeAt b (off + i * 7) [.int .i64 y.1, .string y.2, .string y.3, .string y.4, .string y.5, .string y.6, .bool y.7] from its_range hS5.its hil y hyi)
 have hst := store_new (ty := 37) (T := 37) w5 #[.int .i64 0, .string ⟨#[]⟩, .string ⟨#[]⟩, .string ⟨#[]⟩, .string ⟨#[]⟩, .string ⟨#[]⟩, .bool false] #[.int .i64 y.1, .string y.2, .string y.3, .string y.4, .string y.5, .string y.6, .bool y.7] (by kernel_rfl) rfl (all_oneCell_toArray (iLay.one y))
 have h0 : (0 : Int) ≤ (i : Int) := by omega
 have h1 : (i : Int) < (n : Int) := by have := HL.out; omega
 have c5c := iCells0 hS5.r1
 have HIL := hide hil; have HYI := hide hyi
 go_upto_region 9 with (with_reducible refine wpList_load_mid rfl 37 (.tmp 42) rfl b (off + i * 7) rfl _ _ hRI.out Try.underlying37 rfl (by kernel_rfl) ?_)
 clear hst hRI c5c
 have hbn := Below.news (Below.refl w5.heap.size w5) (.cells #[.int .i64 y.1, .string y.2, .string y.3, .string y.4, .string y.5, .string y.6, .bool y.7] 37)
 have r10 := heap_alloc_new w5 (.cells #[.int .i64 y.1, .string y.2, .string y.3, .string y.4, .string y.5, .string y.6, .bool y.7] 37)
 have hS6 := hS5.below hbn
 have hb6 := bnext hb5 hbn
 have r86 := iNext r85 hbn
 clear hbn hS5 hb5 r85
 obtain ⟨b10, hb10⟩ : ∃ b10, b10 = w5.heap.size := ⟨_, rfl⟩
 rw [← hb10] at r10 hsz5 ⊢
 clear hb10
 generalize w5.alloc (.cells #[.int .i64 y.1, .string y.2, .string y.3, .string y.4, .string y.5, .string y.6, .bool y.7] 37) = w6 at *
 have hsz6 := lt_of_block r10
 have c6k : w6.cell? ⟨w.heap.size + 1, 0, none⟩ = some (.int .i64 p.kind) := (jC15 hS6.r2).1
 have cy : w6.cell? ⟨b10, 3, none⟩ = some (.string y.number) := (iCells r10).2.2.2.1
 have hst := store_part (ty := 9) w6 b8 4 #[.int .i64 p.kind, .string p.id, .string ⟨#[]⟩, .string ⟨#[]⟩, .string ⟨#[]⟩, .int .i64 0, .string ⟨#[]⟩, .string ⟨#[]⟩, .string ⟨#[]⟩, .string ⟨#[]⟩, .string ⟨#[]⟩, .bool false, .int .i64 0, .string ⟨#[]⟩, .string ⟨#[]⟩] (.string y.number) #[.int .i64 p.kind, .string p.id, .string ⟨#[]⟩, .string ⟨#[]⟩, .string y.number, .int .i64 0, .string ⟨#[]⟩, .string ⟨#[]⟩, .string ⟨#[]⟩, .string ⟨#[]⟩, .string ⟨#[]⟩, .bool false, .int .i64 0, .string ⟨#[]⟩, .string ⟨#[]⟩] r86 infoStr1 (show 4 + 1 ≤ 15 by decide) (one_str _) rfl
 have r87 := setRow_heap w6 b8 _ #[.int .i64 p.kind, .string p.id, .string ⟨#[]⟩, .string ⟨#[]⟩, .string y.number, .int .i64 0, .string ⟨#[]⟩, .string ⟨#[]⟩, .string ⟨#[]⟩, .string ⟨#[]⟩, .string ⟨#[]⟩, .bool false, .int .i64 0, .string ⟨#[]⟩, .string ⟨#[]⟩] _ _ r86
 have hS7 := hS6.row (g := b8) (by omega) #[.int .i64 p.kind, .string p.id, .string ⟨#[]⟩, .string ⟨#[]⟩, .string y.number, .int .i64 0, .string ⟨#[]⟩, .string ⟨#[]⟩, .string ⟨#[]⟩, .string ⟨#[]⟩, .string ⟨#[]⟩, .bool false, .int .i64 0, .string ⟨#[]⟩, .string ⟨#[]⟩]
 have hb7 := below_setRow hb6 (by omega) (g := b8) #[.int .i64 p.kind, .string p.id, .string ⟨#[]⟩, .string ⟨#[]⟩, .string y.number, .int .i64 0, .string ⟨#[]⟩, .string ⟨#[]⟩, .string ⟨#[]⟩, .string ⟨#[]⟩, .string ⟨#[]⟩, .bool false, .int .i64 0, .string ⟨#[]⟩, .string ⟨#[]⟩]
 go_upto_region 32 with (fail)
 clear hst c6k cy
 generalize w6.setRow b8 #[.int .i64 p.kind, .string p.id, .string ⟨#[]⟩, .string ⟨#[]⟩, .string y.number, .int .i64 0, .string ⟨#[]⟩, .string ⟨#[]⟩, .string ⟨#[]⟩, .string ⟨#[]⟩, .string ⟨#[]⟩, .bool false, .int .i64 0, .string ⟨#[]⟩, .string ⟨#[]⟩] = w7 at *
 have hst9 := store_row (ty := 39) w7 (w.heap.size + 1 + 1) #[.int .i64 0, .string ⟨#[]⟩, .string ⟨#[]⟩, .string ⟨#[]⟩, .string ⟨#[]⟩, .int .i64 0, .string ⟨#[]⟩, .string ⟨#[]⟩, .string ⟨#[]⟩, .string ⟨#[]⟩, .string ⟨#[]⟩, .bool false, .int .i64 0, .string ⟨#[]⟩, .string ⟨#[]⟩] #[.int .i64 p.kind, .string p.id, .string ⟨#[]⟩, .string ⟨#[]⟩, .string y.number, .int .i64 0, .string ⟨#[]⟩, .string ⟨#[]⟩, .string ⟨#[]⟩, .string ⟨#[]⟩, .string ⟨#[]⟩, .bool false, .int .i64 0, .string ⟨#[]⟩, .string ⟨#[]⟩] hS7.r3 (by kernel_rfl) rfl (all_oneCell_toArray (ptL.one { Dg.barePt p.kind p.id with number := y.number }))
 have r39 := setRow_heap w7 (w.heap.size + 1 + 1) _ #[.int .i64 p.kind, .string p.id, .string ⟨#[]⟩, .string ⟨#[]⟩, .string y.number, .int .i64 0, .string ⟨#[]⟩, .string ⟨#[]⟩, .string ⟨#[]⟩, .string ⟨#[]⟩, .string ⟨#[]⟩, .bool false, .int .i64 0, .string ⟨#[]⟩, .string ⟨#[]⟩] _ _ hS7.r3
 have hb9 := below_setRow hb7 (by omega) (g := w.heap.size + 1 + 1) #[.int .i64 p.kind, .string p.id, .string ⟨#[]⟩, .string ⟨#[]⟩, .string y.number, .int .i64 0, .string ⟨#[]⟩, .string ⟨#[]⟩, .string ⟨#[]⟩, .string ⟨#[]⟩, .string ⟨#[]⟩, .bool false, .int .i64 0, .string ⟨#[]⟩, .string ⟨#[]⟩]
 have hL8 := hide (range_of r87 0 [.int .i64 p.kind, .string p.id, .string ⟨#[]⟩, .string ⟨#[]⟩, .string y.number, .int .i64 0, .string ⟨#[]⟩, .string ⟨#[]⟩, .string ⟨#[]⟩, .string ⟨#[]⟩, .string ⟨#[]⟩, .bool false, .int .i64 0, .string ⟨#[]⟩, .string ⟨#[]⟩] rfl)
 go_wp2_with (with_reducible refine wpList_load_mid rfl 39 (.tmp 8) rfl b8 0 rfl _ _ hL8.out Try.underlying39 rfl (by kernel_rfl) ?_)
 refine bodyPost_ret (results_c8 Try.results10 _ _ (w.heap.size + 1 + 1) 39 #[.int .i64 p.kind, .string p.id, .string ⟨#[]⟩, .string ⟨#[]⟩, .string y.number, .int .i64 0, .string ⟨#[]⟩, .string ⟨#[]⟩, .string ⟨#[]⟩, .string ⟨#[]⟩, .string ⟨#[]⟩, .bool false, .int .i64 0, .string ⟨#[]⟩, .string ⟨#[]⟩] (0, 0) _ rfl r39 Try.underlying39 (by kernel_rfl)) rfl ⟨rfl, hb9⟩
set_option maxRecDepth 100000 in
set_option maxHeartbeats 16000000 in
attribute [-go_sem] Instr.storeAt in
theorem inv_rep (l : List Dg.It) (A : Option Addr) (n c : Nat) (hl : l.length = n) (hn : n ≤ 1048576) (hnc : n ≤ c) (hv : Dg.validC l = true) (p : Dg.Pt) (hp : PtW p) (h2 : p.kind ≠ 2) (l2 : List Dg.It) (ha : Dg.applyP l p = (l2, 0)) (k1 : (p.kind == 1) = false) (k2 : (p.kind == 2) = false) (k3 : (p.kind == 3) = false) (k4 : (p.kind == 4) = false) (k5 : (p.kind == 5) = true) (i : Nat) (hi : Dg.idxI l p.id = some i) (y : Dg.It) (hy : l.getD i Dg.zeroI = y) (w : World) (hI : Its w w.heap.size A l) :
  Calls Try.prog 10 #[.agg #[.slice A n c], .agg #[.int .i64 p.1, .string p.2, .string p.3, .string p.4, .string p.5, .int .i64 p.6.1, .string p.6.2, .string p.6.3, .string p.6.4, .string p.6.5, .string p.6.6, .bool p.6.7, .int .i64 p.7, .string p.8, .string p.9]] w fun e w' => e = .returned (.tuple #[.agg #[.int .i64 6, .string p.id, .string ⟨#[]⟩, .string ⟨#[]⟩, .string ⟨#[]⟩, .int .i64 0, .string ⟨#[]⟩, .string ⟨#[]⟩, .string ⟨#[]⟩, .string ⟨#[]⟩, .string ⟨#[]⟩, .bool false, .int .i64 0, .string ⟨#[]⟩, .string ⟨#[]⟩], .int .i64 0]) ∧ Below w.heap.size w w' := by
 obtain ⟨r1, r2, r3, hb1, hs⟩ := iAlloc3 w (.cells #[.slice A n c] 24) (.cells #[.int .i64 p.1, .string p.2, .string p.3, .string p.4, .string p.5, .int .i64 p.6.1, .string p.6.2, .string p.6.3, .string p.6.4, .string p.6.5, .string p.6.6, .bool p.6.7, .int .i64 p.7, .string p.8, .string p.9] 39) (.cells #[.int .i64 0, .string ⟨#[]⟩, .string ⟨#[]⟩, .string ⟨#[]⟩, .string ⟨#[]⟩, .int .i64 0, .string ⟨#[]⟩, .string ⟨#[]⟩, .string ⟨#[]⟩, .string ⟨#[]⟩, .string ⟨#[]⟩, .bool false, .int .i64 0, .string ⟨#[]⟩, .string ⟨#[]⟩] 39)
 have hmx : Try.prog.follows .mixedOrders = true := by kernel_rfl
 have hS1 : InS w.heap.size A n c l p (((w.alloc (.cells #[.slice A n c] 24)).alloc (.cells #[.int .i64 p.1, .string p.2, .string p.3, .string p.4, .string p.5, .int .i64 p.6.1, .string p.6.2, .string p.6.3, .string p.6.4, .string p.6.5, .string p.6.6, .bool p.6.7, .int .i64 p.7, .string p.8, .string p.9] 39)).alloc (.cells #[.int .i64 0, .string ⟨#[]⟩, .string ⟨#[]⟩, .string ⟨#[]⟩, .string ⟨#[]⟩, .int .i64 0, .string ⟨#[]⟩, .string ⟨#[]⟩, .string ⟨#[]⟩, .string ⟨#[]⟩, .string ⟨#[]⟩, .bool false, .int .i64 0, .string ⟨#[]⟩, .string ⟨#[]⟩] 39)) := ⟨r1, r2, r3, hI.below hb1⟩
 have HL := hide hl; have HV := hide hv; have HP := hide hp; have H2 := hide h2; have HA := hide ha; have HS := hide hs
 clear r1 r2 r3 hI hl hv hp h2 ha hs
 have HI := hide hi; have HY := hide hy
 clear hi hy
 have c1 := iCells0 hS1.r1
 go_enter Try.func10, Try.ntmps10
 go_upto_region 1 with (fail)
 generalize ((w.alloc (.cells #[.slice A n c] 24)).alloc (.cells #[.int .i64 p.1, .string p.2, .string p.3, .string p.4, .string p.5, .int .i64 p.6.1, .string p.6.2, .string p.6.3, .string p.6.4, .string p.6.5, .string p.6.6, .bool p.6.7, .int .i64 p.7, .string p.8, .string p.9] 39)).alloc (.cells #[.int .i64 0, .string ⟨#[]⟩, .string ⟨#[]⟩, .string ⟨#[]⟩, .string ⟨#[]⟩, .int .i64 0, .string ⟨#[]⟩, .string ⟨#[]⟩, .string ⟨#[]⟩, .string ⟨#[]⟩, .string ⟨#[]⟩, .bool false, .int .i64 0, .string ⟨#[]⟩, .string ⟨#[]⟩] 39) = w1 at *
 have hL3 := hide (range_of hS1.r2 0 [.int .i64 p.1, .string p.2, .string p.3, .string p.4, .string p.5, .int .i64 p.6.1, .string p.6.2, .string p.6.3, .string p.6.4, .string p.6.5, .string p.6.6, .bool p.6.7, .int .i64 p.7, .string p.8, .string p.9] rfl)
 have hsz1 : w.heap.size + 1 + 1 < w1.heap.size := lt_of_block hS1.r3
 go_wp2_with (with_reducible refine wpList_load_mid rfl 39 (.tmp 3) rfl (w.heap.size + 1) 0 rfl _ _ hL3.out Try.underlying39 rfl (by kernel_rfl) ?_)
 refine (apply_of l A n c HL.out hn hnc (valid_itw HV.out) p HP.out H2.out w1 (hS1.its.more (by omega))).mono ?_
 rintro e w2 ⟨v', rfl, hO, hbq⟩
 rw [HA.out] at hO ⊢
 obtain ⟨A6, c6, rfl, _, _⟩ := hO.row
 generalize l2.length = n6 at *
 have hS2 := hS1.below hbq
 have hb2 := bnext hb1 hbq
 have hsz2 : w.heap.size + 1 + 1 < w2.heap.size := lt_of_block hS2.r3
 clear hbq hS1 hb1 c1 hL3 hO hsz1
 have hst := store_new (ty := 24) (T := 24) w2 #[.slice none 0 0] #[.slice A6 n6 c6] infoCode1 rfl (by simp [Value.oneCell'])
 go_upto_region 4 with (fail)
 clear hst
 have hbn := Below.news (Below.refl w2.heap.size w2) (.cells #[.slice A6 n6 c6] 24)
 have hS3 := hS2.below hbn
 have hb3 := bnext hb2 hbn
 have hsz3 : w.heap.size + 1 + 1 < (w2.alloc (.cells #[.slice A6 n6 c6] 24)).heap.size := lt_of_block hS3.r3
 clear hbn hS2 hb2 hsz2
 obtain ⟨b6, hb6⟩ : ∃ b6, b6 = w2.heap.size := ⟨_, rfl⟩
 rw [← hb6]
 clear hb6
 generalize w2.alloc (.cells #[.slice A6 n6 c6] 24) = w3 at *
 have c3k : w3.cell? ⟨w.heap.size + 1, 0, none⟩ = some (.int .i64 p.kind) := (jC15 hS3.r2).1
 have c3i : w3.cell? ⟨w.heap.size + 1, 1, none⟩ = some (.string p.id) := (jC15 hS3.r2).2.1
 have hst := store_new (ty := 39) (T := 39) w3 #[.int .i64 0, .string ⟨#[]⟩, .string ⟨#[]⟩, .string ⟨#[]⟩, .string ⟨#[]⟩, .int .i64 0, .string ⟨#[]⟩, .string ⟨#[]⟩, .string ⟨#[]⟩, .string ⟨#[]⟩, .string ⟨#[]⟩, .bool false, .int .i64 0, .string ⟨#[]⟩, .string ⟨#[]⟩] #[.int .i64 p.kind, .string p.id, .string ⟨#[]⟩, .string ⟨#[]⟩, .string ⟨#[]⟩, .int .i64 0, .string ⟨#[]⟩, .string ⟨#[]⟩, .string ⟨#[]⟩, .string ⟨#[]⟩, .string ⟨#[]⟩, .bool false, .int .i64 0, .string ⟨#[]⟩, .string ⟨#[]⟩] (by kernel_rfl) rfl (all_oneCell_toArray (ptL.one (Dg.barePt p.kind p.id)))
 go_upto_region 5 with (fail)
 clear hst c3k c3i
 have hbn := Below.news (Below.refl w3.heap.size w3) (.cells #[.int .i64 p.kind, .string p.id, .string ⟨#[]⟩, .string ⟨#[]⟩, .string ⟨#[]⟩, .int .i64 0, .string ⟨#[]⟩, .string ⟨#[]⟩, .string ⟨#[]⟩, .string ⟨#[]⟩, .string ⟨#[]⟩, .bool false, .int .i64 0, .string ⟨#[]⟩, .string ⟨#[]⟩] 39)
 have r8 := heap_alloc_new w3 (.cells #[.int .i64 p.kind, .string p.id, .string ⟨#[]⟩, .string ⟨#[]⟩, .string ⟨#[]⟩, .int .i64 0, .string ⟨#[]⟩, .string ⟨#[]⟩, .string ⟨#[]⟩, .string ⟨#[]⟩, .string ⟨#[]⟩, .bool false, .int .i64 0, .string ⟨#[]⟩, .string ⟨#[]⟩] 39)
 have hS4 := hS3.below hbn
 have hb4 := bnext hb3 hbn
 clear hbn hS3 hb3
 obtain ⟨b8, hb8⟩ : ∃ b8, b8 = w3.heap.size := ⟨_, rfl⟩
 rw [← hb8] at r8 hsz3 ⊢
 clear hb8
 generalize w3.alloc (.cells #[.int .i64 p.kind, .string p.id, .string ⟨#[]⟩, .string ⟨#[]⟩, .string ⟨#[]⟩, .int .i64 0, .string ⟨#[]⟩, .string ⟨#[]⟩, .string ⟨#[]⟩, .string ⟨#[]⟩, .string ⟨#[]⟩, .bool false, .int .i64 0, .string ⟨#[]⟩, .string ⟨#[]⟩] 39) = w4 at *
 have hsz8 := lt_of_block r8
 have c4k : w4.cell? ⟨w.heap.size + 1, 0, none⟩ = some (.int .i64 p.kind) := (jC15 hS4.r2).1
 have c4i : w4.cell? ⟨w.heap.size + 1, 1, none⟩ = some (.string p.id) := (jC15 hS4.r2).2.1
 have c4c := iCells0 hS4.r1
 go_wp2_with (fail)
 refine (Code.find_of l A n c HL.out hn p.id w4 (hS4.its.more (by omega)) (i : Int) (findX_idx HI.out)).mono ?_
 rintro e w5 ⟨rfl, hbq⟩
 have hS5 := hS4.below hbq
 have hb5 := bnext hb4 hbq
 have r85 := iNext r8 hbq
 have hsz5 := lt_of_block r85
 clear hbq hS4 hb4 r8 c4k c4i c4c hsz8
 obtain ⟨hil, _⟩ := Dg.idxI_some HI.out
 have hyi : l[i] = y := by rw [← HY.out]; simp [List.getD_eq_getElem?_getD, hil]
 obtain ⟨b, off, hA⟩ := hS5.its.some hil
 subst hA
 have hRI := hide (show w5.rangeAt b (off + i * 7) [.int .i64 y.1, .string y.2, .string y.3, .string y.4, .string y.5, .string y.6, .bool y.7] from its_range hS5.its hil y hyi)
 have hst := store_new (ty := 37) (T := 37) w5 #[.int .i64 0, .string ⟨#[]⟩, .string ⟨#[]⟩, .string ⟨#[]⟩, .string ⟨#[]⟩, .string ⟨#[]⟩, .bool false] #[.int .i64 y.1, .string y.2, .string y.3, .string y.4, .string y.5, .string y.6, .bool y.7] (by kernel_rfl) rfl (all_oneCell_toArray (iLay.one y))
 have h0 : (0 : Int) ≤ (i : Int) := by omega
 have h1 : (i : Int) < (n : Int) := by have := HL.out; omega
 have c5c := iCells0 hS5.r1
 have HIL := hide hil; have HYI := hide hyi
 go_upto_region 9 with (with_reducible refine wpList_load_mid rfl 37 (.tmp 42) rfl b (off + i * 7) rfl _ _ hRI.out Try.underlying37 rfl (by kernel_rfl) ?_)
 clear hst hRI c5c
 have hbn := Below.news (Below.refl w5.heap.size w5) (.cells #[.int .i64 y.1, .string y.2, .string y.3, .string y.4, .string y.5, .string y.6, .bool y.7] 37)
 have r10 := heap_alloc_new w5 (.cells #[.int .i64 y.1, .string y.2, .string y.3, .string y.4, .string y.5, .string y.6, .bool y.7] 37)
 have hS6 := hS5.below hbn
 have hb6 := bnext hb5 hbn
 have r86 := iNext r85 hbn
 clear hbn hS5 hb5 r85
 obtain ⟨b10, hb10⟩ : ∃ b10, b10 = w5.heap.size := ⟨_, rfl⟩
 rw [← hb10] at r10 hsz5 ⊢
 clear hb10
 generalize w5.alloc (.cells #[.int .i64 y.1, .string y.2, .string y.3, .string y.4, .string y.5, .string y.6, .bool y.7] 37) = w6 at *
 have hsz6 := lt_of_block r10
 have c6k : w6.cell? ⟨w.heap.size + 1, 0, none⟩ = some (.int .i64 p.kind) := (jC15 hS6.r2).1
 have hst := store_part (ty := 3) w6 b8 0 #[.int .i64 p.kind, .string p.id, .string ⟨#[]⟩, .string ⟨#[]⟩, .string ⟨#[]⟩, .int .i64 0, .string ⟨#[]⟩, .string ⟨#[]⟩, .string ⟨#[]⟩, .string ⟨#[]⟩, .string ⟨#[]⟩, .bool false, .int .i64 0, .string ⟨#[]⟩, .string ⟨#[]⟩] (.int .i64 6) #[.int .i64 6, .string p.id, .string ⟨#[]⟩, .string ⟨#[]⟩, .string ⟨#[]⟩, .int .i64 0, .string ⟨#[]⟩, .string ⟨#[]⟩, .string ⟨#[]⟩, .string ⟨#[]⟩, .string ⟨#[]⟩, .bool false, .int .i64 0, .string ⟨#[]⟩, .string ⟨#[]⟩] r86 infoInt1 (show 0 + 1 ≤ 15 by decide) (one_int _ _) rfl
 have r87 := setRow_heap w6 b8 _ #[.int .i64 6, .string p.id, .string ⟨#[]⟩, .string ⟨#[]⟩, .string ⟨#[]⟩, .int .i64 0, .string ⟨#[]⟩, .string ⟨#[]⟩, .string ⟨#[]⟩, .string ⟨#[]⟩, .string ⟨#[]⟩, .bool false, .int .i64 0, .string ⟨#[]⟩, .string ⟨#[]⟩] _ _ r86
 have hS7 := hS6.row (g := b8) (by omega) #[.int .i64 6, .string p.id, .string ⟨#[]⟩, .string ⟨#[]⟩, .string ⟨#[]⟩, .int .i64 0, .string ⟨#[]⟩, .string ⟨#[]⟩, .string ⟨#[]⟩, .string ⟨#[]⟩, .string ⟨#[]⟩, .bool false, .int .i64 0, .string ⟨#[]⟩, .string ⟨#[]⟩]
 have hb7 := below_setRow hb6 (by omega) (g := b8) #[.int .i64 6, .string p.id, .string ⟨#[]⟩, .string ⟨#[]⟩, .string ⟨#[]⟩, .int .i64 0, .string ⟨#[]⟩, .string ⟨#[]⟩, .string ⟨#[]⟩, .string ⟨#[]⟩, .string ⟨#[]⟩, .bool false, .int .i64 0, .string ⟨#[]⟩, .string ⟨#[]⟩]
 go_upto_region 32 with (fail)
 clear hst c6k
 generalize w6.setRow b8 #[.int .i64 6, .string p.id, .string ⟨#[]⟩, .string ⟨#[]⟩, .string ⟨#[]⟩, .int .i64 0, .string ⟨#[]⟩, .string ⟨#[]⟩, .string ⟨#[]⟩, .string ⟨#[]⟩, .string ⟨#[]⟩, .bool false, .int .i64 0, .string ⟨#[]⟩, .string ⟨#[]⟩] = w7 at *
 have hst9 := store_row (ty := 39) w7 (w.heap.size + 1 + 1) #[.int .i64 0, .string ⟨#[]⟩, .string ⟨#[]⟩, .string ⟨#[]⟩, .string ⟨#[]⟩, .int .i64 0, .string ⟨#[]⟩, .string ⟨#[]⟩, .string ⟨#[]⟩, .string ⟨#[]⟩, .string ⟨#[]⟩, .bool false, .int .i64 0, .string ⟨#[]⟩, .string ⟨#[]⟩] #[.int .i64 6, .string p.id, .string ⟨#[]⟩, .string ⟨#[]⟩, .string ⟨#[]⟩, .int .i64 0, .string ⟨#[]⟩, .string ⟨#[]⟩, .string ⟨#[]⟩, .string ⟨#[]⟩, .string ⟨#[]⟩, .bool false, .int .i64 0, .string ⟨#[]⟩, .string ⟨#[]⟩] hS7.r3 (by kernel_rfl) rfl (all_oneCell_toArray (ptL.one (Dg.barePt 6 p.id)))
 have r39 := setRow_heap w7 (w.heap.size + 1 + 1) _ #[.int .i64 6, .string p.id, .string ⟨#[]⟩, .string ⟨#[]⟩, .string ⟨#[]⟩, .int .i64 0, .string ⟨#[]⟩, .string ⟨#[]⟩, .string ⟨#[]⟩, .string ⟨#[]⟩, .string ⟨#[]⟩, .bool false, .int .i64 0, .string ⟨#[]⟩, .string ⟨#[]⟩] _ _ hS7.r3
 have hb9 := below_setRow hb7 (by omega) (g := w.heap.size + 1 + 1) #[.int .i64 6, .string p.id, .string ⟨#[]⟩, .string ⟨#[]⟩, .string ⟨#[]⟩, .int .i64 0, .string ⟨#[]⟩, .string ⟨#[]⟩, .string ⟨#[]⟩, .string ⟨#[]⟩, .string ⟨#[]⟩, .bool false, .int .i64 0, .string ⟨#[]⟩, .string ⟨#[]⟩]
 have hL8 := hide (range_of r87 0 [.int .i64 6, .string p.id, .string ⟨#[]⟩, .string ⟨#[]⟩, .string ⟨#[]⟩, .int .i64 0, .string ⟨#[]⟩, .string ⟨#[]⟩, .string ⟨#[]⟩, .string ⟨#[]⟩, .string ⟨#[]⟩, .bool false, .int .i64 0, .string ⟨#[]⟩, .string ⟨#[]⟩] rfl)
 go_wp2_with (with_reducible refine wpList_load_mid rfl 39 (.tmp 8) rfl b8 0 rfl _ _ hL8.out Try.underlying39 rfl (by kernel_rfl) ?_)
 refine bodyPost_ret (results_c8 Try.results10 _ _ (w.heap.size + 1 + 1) 39 #[.int .i64 6, .string p.id, .string ⟨#[]⟩, .string ⟨#[]⟩, .string ⟨#[]⟩, .int .i64 0, .string ⟨#[]⟩, .string ⟨#[]⟩, .string ⟨#[]⟩, .string ⟨#[]⟩, .string ⟨#[]⟩, .bool false, .int .i64 0, .string ⟨#[]⟩, .string ⟨#[]⟩] (0, 0) _ rfl r39 Try.underlying39 (by kernel_rfl)) rfl ⟨rfl, hb9⟩
set_option maxRecDepth 100000 in
set_option maxHeartbeats 16000000 in
attribute [-go_sem] Instr.storeAt in
theorem inv_rev (l : List Dg.It) (A : Option Addr) (n c : Nat) (hl : l.length = n) (hn : n ≤ 1048576) (hnc : n ≤ c) (hv : Dg.validC l = true) (p : Dg.Pt) (hp : PtW p) (h2 : p.kind ≠ 2) (l2 : List Dg.It) (ha : Dg.applyP l p = (l2, 0)) (k1 : (p.kind == 1) = false) (k2 : (p.kind == 2) = false) (k3 : (p.kind == 3) = false) (k4 : (p.kind == 4) = false) (k5 : (p.kind == 5) = false) (k6 : (p.kind == 6) = true) (i : Nat) (hi : Dg.idxI l p.id = some i) (y : Dg.It) (hy : l.getD i Dg.zeroI = y) (w : World) (hI : Its w w.heap.size A l) :
  Calls Try.prog 10 #[.agg #[.slice A n c], .agg #[.int .i64 p.1, .string p.2, .string p.3, .string p.4, .string p.5, .int .i64 p.6.1, .string p.6.2, .string p.6.3, .string p.6.4, .string p.6.5, .string p.6.6, .bool p.6.7, .int .i64 p.7, .string p.8, .string p.9]] w fun e w' => e = .returned (.tuple #[.agg #[.int .i64 5, .string p.id, .string ⟨#[]⟩, .string ⟨#[]⟩, .string ⟨#[]⟩, .int .i64 0, .string ⟨#[]⟩, .string ⟨#[]⟩, .string ⟨#[]⟩, .string ⟨#[]⟩, .string ⟨#[]⟩, .bool false, .int .i64 0, .string ⟨#[]⟩, .string ⟨#[]⟩], .int .i64 0]) ∧ Below w.heap.size w w' := by
 obtain ⟨r1, r2, r3, hb1, hs⟩ := iAlloc3 w (.cells #[.slice A n c] 24) (.cells #[.int .i64 p.1, .string p.2, .string p.3, .string p.4, .string p.5, .int .i64 p.6.1, .string p.6.2, .string p.6.3, .string p.6.4, .string p.6.5, .string p.6.6, .bool p.6.7, .int .i64 p.7, .string p.8, .string p.9] 39) (.cells #[.int .i64 0, .string ⟨#[]⟩, .string ⟨#[]⟩, .string ⟨#[]⟩, .string ⟨#[]⟩, .int .i64 0, .string ⟨#[]⟩, .string ⟨#[]⟩, .string ⟨#[]⟩, .string ⟨#[]⟩, .string ⟨#[]⟩, .bool false, .int .i64 0, .string ⟨#[]⟩, .string ⟨#[]⟩] 39)
 have hmx : Try.prog.follows .mixedOrders = true := by kernel_rfl
 have hS1 : InS w.heap.size A n c l p (((w.alloc (.cells #[.slice A n c] 24)).alloc (.cells #[.int .i64 p.1, .string p.2, .string p.3, .string p.4, .string p.5, .int .i64 p.6.1, .string p.6.2, .string p.6.3, .string p.6.4, .string p.6.5, .string p.6.6, .bool p.6.7, .int .i64 p.7, .string p.8, .string p.9] 39)).alloc (.cells #[.int .i64 0, .string ⟨#[]⟩, .string ⟨#[]⟩, .string ⟨#[]⟩, .string ⟨#[]⟩, .int .i64 0, .string ⟨#[]⟩, .string ⟨#[]⟩, .string ⟨#[]⟩, .string ⟨#[]⟩, .string ⟨#[]⟩, .bool false, .int .i64 0, .string ⟨#[]⟩, .string ⟨#[]⟩] 39)) := ⟨r1, r2, r3, hI.below hb1⟩
 have HL := hide hl; have HV := hide hv; have HP := hide hp; have H2 := hide h2; have HA := hide ha; have HS := hide hs
 clear r1 r2 r3 hI hl hv hp h2 ha hs
 have HI := hide hi; have HY := hide hy
 clear hi hy
 have c1 := iCells0 hS1.r1
 go_enter Try.func10, Try.ntmps10
 go_upto_region 1 with (fail)
 generalize ((w.alloc (.cells #[.slice A n c] 24)).alloc (.cells #[.int .i64 p.1, .string p.2, .string p.3, .string p.4, .string p.5, .int .i64 p.6.1, .string p.6.2, .string p.6.3, .string p.6.4, .string p.6.5, .string p.6.6, .bool p.6.7, .int .i64 p.7, .string p.8, .string p.9] 39)).alloc (.cells #[.int .i64 0, .string ⟨#[]⟩, .string ⟨#[]⟩, .string ⟨#[]⟩, .string ⟨#[]⟩, .int .i64 0, .string ⟨#[]⟩, .string ⟨#[]⟩, .string ⟨#[]⟩, .string ⟨#[]⟩, .string ⟨#[]⟩, .bool false, .int .i64 0, .string ⟨#[]⟩, .string ⟨#[]⟩] 39) = w1 at *
 have hL3 := hide (range_of hS1.r2 0 [.int .i64 p.1, .string p.2, .string p.3, .string p.4, .string p.5, .int .i64 p.6.1, .string p.6.2, .string p.6.3, .string p.6.4, .string p.6.5, .string p.6.6, .bool p.6.7, .int .i64 p.7, .string p.8, .string p.9] rfl)
 have hsz1 : w.heap.size + 1 + 1 < w1.heap.size := lt_of_block hS1.r3
 go_wp2_with (with_reducible refine wpList_load_mid rfl 39 (.tmp 3) rfl (w.heap.size + 1) 0 rfl _ _ hL3.out Try.underlying39 rfl (by kernel_rfl) ?_)
 refine (apply_of l A n c HL.out hn hnc (valid_itw HV.out) p HP.out H2.out w1 (hS1.its.more (by omega))).mono ?_
 rintro e w2 ⟨v', rfl, hO, hbq⟩
 rw [HA.out] at hO ⊢
 obtain ⟨A6, c6, rfl, _, _⟩ := hO.row
 generalize l2.length = n6 at *
 have hS2 := hS1.below hbq
 have hb2 := bnext hb1 hbq
 have hsz2 : w.heap.size + 1 + 1 < w2.heap.size := lt_of_block hS2.r3
 clear hbq hS1 hb1 c1 hL3 hO hsz1
 have hst := store_new (ty := 24) (T := 24) w2 #[.slice none 0 0] #[.slice A6 n6 c6] infoCode1 rfl (by simp [Value.oneCell'])
 go_upto_region 4 with (fail)
 clear hst
 have hbn := Below.news (Below.refl w2.heap.size w2) (.cells #[.slice A6 n6 c6] 24)
 have hS3 := hS2.below hbn
 have hb3 := bnext hb2 hbn
 have hsz3 : w.heap.size + 1 + 1 < (w2.alloc (.cells #[.slice A6 n6 c6] 24)).heap.size := lt_of_block hS3.r3
 clear hbn hS2 hb2 hsz2
 obtain ⟨b6, hb6⟩ : ∃ b6, b6 = w2.heap.size := ⟨_, rfl⟩
 rw [← hb6]
 clear hb6
 generalize w2.alloc (.cells #[.slice A6 n6 c6] 24) = w3 at *
 have c3k : w3.cell? ⟨w.heap.size + 1, 0, none⟩ = some (.int .i64 p.kind) := (jC15 hS3.r2).1
 have c3i : w3.cell? ⟨w.heap.size + 1, 1, none⟩ = some (.string p.id) := (jC15 hS3.r2).2.1
 have hst := store_new (ty := 39) (T := 39) w3 #[.int .i64 0, .string ⟨#[]⟩, .string ⟨#[]⟩, .string ⟨#[]⟩, .string ⟨#[]⟩, .int .i64 0, .string ⟨#[]⟩, .string ⟨#[]⟩, .string ⟨#[]⟩, .string ⟨#[]⟩, .string ⟨#[]⟩, .bool false, .int .i64 0, .string ⟨#[]⟩, .string ⟨#[]⟩] #[.int .i64 p.kind, .string p.id, .string ⟨#[]⟩, .string ⟨#[]⟩, .string ⟨#[]⟩, .int .i64 0, .string ⟨#[]⟩, .string ⟨#[]⟩, .string ⟨#[]⟩, .string ⟨#[]⟩, .string ⟨#[]⟩, .bool false, .int .i64 0, .string ⟨#[]⟩, .string ⟨#[]⟩] (by kernel_rfl) rfl (all_oneCell_toArray (ptL.one (Dg.barePt p.kind p.id)))
 go_upto_region 5 with (fail)
 clear hst c3k c3i
 have hbn := Below.news (Below.refl w3.heap.size w3) (.cells #[.int .i64 p.kind, .string p.id, .string ⟨#[]⟩, .string ⟨#[]⟩, .string ⟨#[]⟩, .int .i64 0, .string ⟨#[]⟩, .string ⟨#[]⟩, .string ⟨#[]⟩, .string ⟨#[]⟩, .string ⟨#[]⟩, .bool false, .int .i64 0, .string ⟨#[]⟩, .string ⟨#[]⟩] 39)
 have r8 := heap_alloc_new w3 (.cells #[.int .i64 p.kind, .string p.id, .string ⟨#[]⟩, .string ⟨#[]⟩, .string ⟨#[]⟩, .int .i64 0, .string ⟨#[]⟩, .string ⟨#[]⟩, .string ⟨#[]⟩, .string ⟨#[]⟩, .string ⟨#[]⟩, .bool false, .int .i64 0, .string ⟨#[]⟩, .string ⟨#[]⟩] 39)
 have hS4 := hS3.below hbn
 have hb4 := bnext hb3 hbn
 clear hbn hS3 hb3
 obtain ⟨b8, hb8⟩ : ∃ b8, b8 = w3.heap.size := ⟨_, rfl⟩
 rw [← hb8] at r8 hsz3 ⊢
 clear hb8
 generalize w3.alloc (.cells #[.int .i64 p.kind, .string p.id, .string ⟨#[]⟩, .string ⟨#[]⟩, .string ⟨#[]⟩, .int .i64 0, .string ⟨#[]⟩, .string ⟨#[]⟩, .string ⟨#[]⟩, .string ⟨#[]⟩, .string ⟨#[]⟩, .bool false, .int .i64 0, .string ⟨#[]⟩, .string ⟨#[]⟩] 39) = w4 at *
 have hsz8 := lt_of_block r8
 have c4k : w4.cell? ⟨w.heap.size + 1, 0, none⟩ = some (.int .i64 p.kind) := (jC15 hS4.r2).1
 have c4i : w4.cell? ⟨w.heap.size + 1, 1, none⟩ = some (.string p.id) := (jC15 hS4.r2).2.1
 have c4c := iCells0 hS4.r1
 go_wp2_with (fail)
 refine (Code.find_of l A n c HL.out hn p.id w4 (hS4.its.more (by omega)) (i : Int) (findX_idx HI.out)).mono ?_
 rintro e w5 ⟨rfl, hbq⟩
 have hS5 := hS4.below hbq
 have hb5 := bnext hb4 hbq
 have r85 := iNext r8 hbq
 have hsz5 := lt_of_block r85
 clear hbq hS4 hb4 r8 c4k c4i c4c hsz8
 obtain ⟨hil, _⟩ := Dg.idxI_some HI.out
 have hyi : l[i] = y := by rw [← HY.out]; simp [List.getD_eq_getElem?_getD, hil]
 obtain ⟨b, off, hA⟩ := hS5.its.some hil
 subst hA
 have hRI := hide (show w5.rangeAt b (off + i * 7) [.int .i64 y.1, .string y.2, .string y.3, .string y.4, .string y.5, .string y.6, .bool y.7] from its_range hS5.its hil y hyi)
 have hst := store_new (ty := 37) (T := 37) w5 #[.int .i64 0, .string ⟨#[]⟩, .string ⟨#[]⟩, .string ⟨#[]⟩, .string ⟨#[]⟩, .string ⟨#[]⟩, .bool false] #[.int .i64 y.1, .string y.2, .string y.3, .string y.4, .string y.5, .string y.6, .bool y.7] (by kernel_rfl) rfl (all_oneCell_toArray (iLay.one y))
 have h0 : (0 : Int) ≤ (i : Int) := by omega
 have h1 : (i : Int) < (n : Int) := by have := HL.out; omega
 have c5c := iCells0 hS5.r1
 have HIL := hide hil; have HYI := hide hyi
 go_upto_region 9 with (with_reducible refine wpList_load_mid rfl 37 (.tmp 42) rfl b (off + i * 7) rfl _ _ hRI.out Try.underlying37 rfl (by kernel_rfl) ?_)
 clear hst hRI c5c
 have hbn := Below.news (Below.refl w5.heap.size w5) (.cells #[.int .i64 y.1, .string y.2, .string y.3, .string y.4, .string y.5, .string y.6, .bool y.7] 37)
 have r10 := heap_alloc_new w5 (.cells #[.int .i64 y.1, .string y.2, .string y.3, .string y.4, .string y.5, .string y.6, .bool y.7] 37)
 have hS6 := hS5.below hbn
 have hb6 := bnext hb5 hbn
 have r86 := iNext r85 hbn
 clear hbn hS5 hb5 r85
 obtain ⟨b10, hb10⟩ : ∃ b10, b10 = w5.heap.size := ⟨_, rfl⟩
 rw [← hb10] at r10 hsz5 ⊢
 clear hb10
 generalize w5.alloc (.cells #[.int .i64 y.1, .string y.2, .string y.3, .string y.4, .string y.5, .string y.6, .bool y.7] 37) = w6 at *
 have hsz6 := lt_of_block r10
 have c6k : w6.cell? ⟨w.heap.size + 1, 0, none⟩ = some (.int .i64 p.kind) := (jC15 hS6.r2).1
 have hst := store_part (ty := 3) w6 b8 0 #[.int .i64 p.kind, .string p.id, .string ⟨#[]⟩, .string ⟨#[]⟩, .string ⟨#[]⟩, .int .i64 0, .string ⟨#[]⟩, .string ⟨#[]⟩, .string ⟨#[]⟩, .string ⟨#[]⟩, .string ⟨#[]⟩, .bool false, .int .i64 0, .string ⟨#[]⟩, .string ⟨#[]⟩] (.int .i64 5) #[.int .i64 5, .string p.id, .string ⟨#[]⟩, .string ⟨#[]⟩, .string ⟨#[]⟩, .int .i64 0, .string ⟨#[]⟩, .string ⟨#[]⟩, .string ⟨#[]⟩, .string ⟨#[]⟩, .string ⟨#[]⟩, .bool false, .int .i64 0, .string ⟨#[]⟩, .string ⟨#[]⟩] r86 infoInt1 (show 0 + 1 ≤ 15 by decide) (one_int _ _) rfl
 have r87 := setRow_heap w6 b8 _ #[.int .i64 5, .string p.id, .string ⟨#[]⟩, .string ⟨#[]⟩, .string ⟨#[]⟩, .int .i64 0, .string ⟨#[]⟩, .string ⟨#[]⟩, .string ⟨#[]⟩, .string ⟨#[]⟩, .string ⟨#[]⟩, .bool false, .int .i64 0, .string ⟨#[]⟩, .string ⟨#[]⟩] _ _ r86
 have hS7 := hS6.row (g := b8) (by omega) #[.int .i64 5, .string p.id, .string ⟨#[]⟩, .string ⟨#[]⟩, .string ⟨#[]⟩, .int .i64 0, .string ⟨#[]⟩, .string ⟨#[]⟩, .string ⟨#[]⟩, .string ⟨#[]⟩, .string ⟨#[]⟩, .bool false, .int .i64 0, .string ⟨#[]⟩, .string ⟨#[]⟩]
 have hb7 := below_setRow hb6 (by omega) (g := b8) #[.int .i64 5, .string p.id, .string ⟨#[]⟩, .string ⟨#[]⟩, .string ⟨#[]⟩, .int .i64 0, .string ⟨#[]⟩, .string ⟨#[]⟩, .string ⟨#[]⟩, .string ⟨#[]⟩, .string ⟨#[]⟩, .bool false, .int .i64 0, .string ⟨#[]⟩, .string ⟨#[]⟩]
 go_upto_region 32 with (fail)
 clear hst c6k
 generalize w6.setRow b8 #[.int .i64 5, .string p.id, .string ⟨#[]⟩, .string ⟨#[]⟩, .string ⟨#[]⟩, .int .i64 0, .string ⟨#[]⟩, .string ⟨#[]⟩, .string ⟨#[]⟩, .string ⟨#[]⟩, .string ⟨#[]⟩, .bool false, .int .i64 0, .string ⟨#[]⟩, .string ⟨#[]⟩] = w7 at *
 have hst9 := store_row (ty := 39) w7 (w.heap.size + 1 + 1) #[.int .i64 0, .string ⟨#[]⟩, .string ⟨#[]⟩, .string ⟨#[]⟩, .string ⟨#[]⟩, .int .i64 0, .string ⟨#[]⟩, .string ⟨#[]⟩, .string ⟨#[]⟩, .string ⟨#[]⟩, .string ⟨#[]⟩, .bool false, .int .i64 0, .string ⟨#[]⟩, .string ⟨#[]⟩] #[.int .i64 5, .string p.id, .string ⟨#[]⟩, .string ⟨#[]⟩, .string ⟨#[]⟩, .int .i64 0, .string ⟨#[]⟩, .string ⟨#[]⟩, .string ⟨#[]⟩, .string ⟨#[]⟩, .string ⟨#[]⟩, .bool false, .int .i64 0, .string ⟨#[]⟩, .string ⟨#[]⟩] hS7.r3 (by kernel_rfl) rfl (all_oneCell_toArray (ptL.one (Dg.barePt 5 p.id)))
 have r39 := setRow_heap w7 (w.heap.size + 1 + 1) _ #[.int .i64 5, .string p.id, .string ⟨#[]⟩, .string ⟨#[]⟩, .string ⟨#[]⟩, .int .i64 0, .string ⟨#[]⟩, .string ⟨#[]⟩, .string ⟨#[]⟩, .string ⟨#[]⟩, .string ⟨#[]⟩, .bool false, .int .i64 0, .string ⟨#[]⟩, .string ⟨#[]⟩] _ _ hS7.r3
 have hb9 := below_setRow hb7 (by omega) (g := w.heap.size + 1 + 1) #[.int .i64 5, .string p.id, .string ⟨#[]⟩, .string ⟨#[]⟩, .string ⟨#[]⟩, .int .i64 0, .string ⟨#[]⟩, .string ⟨#[]⟩, .string ⟨#[]⟩, .string ⟨#[]⟩, .string ⟨#[]⟩, .bool false, .int .i64 0, .string ⟨#[]⟩, .string ⟨#[]⟩]
 have hL8 := hide (range_of r87 0 [.int .i64 5, .string p.id, .string ⟨#[]⟩, .string ⟨#[]⟩, .string ⟨#[]⟩, .int .i64 0, .string ⟨#[]⟩, .string ⟨#[]⟩, .string ⟨#[]⟩, .string ⟨#[]⟩, .string ⟨#[]⟩, .bool false, .int .i64 0, .string ⟨#[]⟩, .string ⟨#[]⟩] rfl)
 go_wp2_with (with_reducible refine wpList_load_mid rfl 39 (.tmp 8) rfl b8 0 rfl _ _ hL8.out Try.underlying39 rfl (by kernel_rfl) ?_)
 refine bodyPost_ret (results_c8 Try.results10 _ _ (w.heap.size + 1 + 1) 39 #[.int .i64 5, .string p.id, .string ⟨#[]⟩, .string ⟨#[]⟩, .string ⟨#[]⟩, .int .i64 0, .string ⟨#[]⟩, .string ⟨#[]⟩, .string ⟨#[]⟩, .string ⟨#[]⟩, .string ⟨#[]⟩, .bool false, .int .i64 0, .string ⟨#[]⟩, .string ⟨#[]⟩] (0, 0) _ rfl r39 Try.underlying39 (by kernel_rfl)) rfl ⟨rfl, hb9⟩
set_option maxRecDepth 100000 in
set_option maxHeartbeats 16000000 in
attribute [-go_sem] Instr.storeAt in
theorem inv_text (l : List Dg.It) (A : Option Addr) (n c : Nat) (hl : l.length = n) (hn : n ≤ 1048576) (hnc : n ≤ c) (hv : Dg.validC l = true) (p : Dg.Pt) (hp : PtW p) (h2 : p.kind ≠ 2) (l2 : List Dg.It) (ha : Dg.applyP l p = (l2, 0)) (k1 : (p.kind == 1) = false) (k2 : (p.kind == 2) = false) (k3 : (p.kind == 3) = false) (k4 : (p.kind == 4) = false) (k5 : (p.kind == 5) = false) (k6 : (p.kind == 6) = false) (k7 : (p.kind == 7) = true) (i : Nat) (hi : Dg.idxI l p.id = some i) (y : Dg.It) (hy : l.getD i Dg.zeroI = y) (w : World) (hI : Its w w.heap.size A l) :
  Calls Try.prog 10 #[.agg #[.slice A n c], .agg #[.int .i64 p.1, .string p.2, .string p.3, .string p.4, .string p.5, .int .i64 p.6.1, .string p.6.2, .string p.6.3, .string p.6.4, .string p.6.5, .string p.6.6, .bool p.6.7, .int .i64 p.7, .string p.8, .string p.9]] w fun e w' => e = .returned (.tuple #[.agg #[.int .i64 p.kind, .string p.id, .string ⟨#[]⟩, .string ⟨#[]⟩, .string ⟨#[]⟩, .int .i64 0, .string ⟨#[]⟩, .string ⟨#[]⟩, .string ⟨#[]⟩, .string y.north, .string y.south, .bool false, .int .i64 0, .string ⟨#[]⟩, .string ⟨#[]⟩], .int .i64 0]) ∧ Below w.heap.size w w' := by
 obtain ⟨r1, r2, r3, hb1, hs⟩ := iAlloc3 w (.cells #[.slice A n c] 24) (.cells #[.int .i64 p.1, .string p.2, .string p.3, .string p.4, .string p.5, .int .i64 p.6.1, .string p.6.2, .string p.6.3, .string p.6.4, .string p.6.5, .string p.6.6, .bool p.6.7, .int .i64 p.7, .string p.8, .string p.9] 39) (.cells #[.int .i64 0, .string ⟨#[]⟩, .string ⟨#[]⟩, .string ⟨#[]⟩, .string ⟨#[]⟩, .int .i64 0, .string ⟨#[]⟩, .string ⟨#[]⟩, .string ⟨#[]⟩, .string ⟨#[]⟩, .string ⟨#[]⟩, .bool false, .int .i64 0, .string ⟨#[]⟩, .string ⟨#[]⟩] 39)
 have hmx : Try.prog.follows .mixedOrders = true := by kernel_rfl
 have hS1 : InS w.heap.size A n c l p (((w.alloc (.cells #[.slice A n c] 24)).alloc (.cells #[.int .i64 p.1, .string p.2, .string p.3, .string p.4, .string p.5, .int .i64 p.6.1, .string p.6.2, .string p.6.3, .string p.6.4, .string p.6.5, .string p.6.6, .bool p.6.7, .int .i64 p.7, .string p.8, .string p.9] 39)).alloc (.cells #[.int .i64 0, .string ⟨#[]⟩, .string ⟨#[]⟩, .string ⟨#[]⟩, .string ⟨#[]⟩, .int .i64 0, .string ⟨#[]⟩, .string ⟨#[]⟩, .string ⟨#[]⟩, .string ⟨#[]⟩, .string ⟨#[]⟩, .bool false, .int .i64 0, .string ⟨#[]⟩, .string ⟨#[]⟩] 39)) := ⟨r1, r2, r3, hI.below hb1⟩
 have HL := hide hl; have HV := hide hv; have HP := hide hp; have H2 := hide h2; have HA := hide ha; have HS := hide hs
 clear r1 r2 r3 hI hl hv hp h2 ha hs
 have HI := hide hi; have HY := hide hy
 clear hi hy
 have c1 := iCells0 hS1.r1
 go_enter Try.func10, Try.ntmps10
 go_upto_region 1 with (fail)
 generalize ((w.alloc (.cells #[.slice A n c] 24)).alloc (.cells #[.int .i64 p.1, .string p.2, .string p.3, .string p.4, .string p.5, .int .i64 p.6.1, .string p.6.2, .string p.6.3, .string p.6.4, .string p.6.5, .string p.6.6, .bool p.6.7, .int .i64 p.7, .string p.8, .string p.9] 39)).alloc (.cells #[.int .i64 0, .string ⟨#[]⟩, .string ⟨#[]⟩, .string ⟨#[]⟩, .string ⟨#[]⟩, .int .i64 0, .string ⟨#[]⟩, .string ⟨#[]⟩, .string ⟨#[]⟩, .string ⟨#[]⟩, .string ⟨#[]⟩, .bool false, .int .i64 0, .string ⟨#[]⟩, .string ⟨#[]⟩] 39) = w1 at *
 have hL3 := hide (range_of hS1.r2 0 [.int .i64 p.1, .string p.2, .string p.3, .string p.4, .string p.5, .int .i64 p.6.1, .string p.6.2, .string p.6.3, .string p.6.4, .string p.6.5, .string p.6.6, .bool p.6.7, .int .i64 p.7, .string p.8, .string p.9] rfl)
 have hsz1 : w.heap.size + 1 + 1 < w1.heap.size := lt_of_block hS1.r3
 go_wp2_with (with_reducible refine wpList_load_mid rfl 39 (.tmp 3) rfl (w.heap.size + 1) 0 rfl _ _ hL3.out Try.underlying39 rfl (by kernel_rfl) ?_)
 refine (apply_of l A n c HL.out hn hnc (valid_itw HV.out) p HP.out H2.out w1 (hS1.its.more (by omega))).mono ?_
 rintro e w2 ⟨v', rfl, hO, hbq⟩
 rw [HA.out] at hO ⊢
 obtain ⟨A6, c6, rfl, _, _⟩ := hO.row
 generalize l2.length = n6 at *
 have hS2 := hS1.below hbq
 have hb2 := bnext hb1 hbq
 have hsz2 : w.heap.size + 1 + 1 < w2.heap.size := lt_of_block hS2.r3
 clear hbq hS1 hb1 c1 hL3 hO hsz1
 have hst := store_new (ty := 24) (T := 24) w2 #[.slice none 0 0] #[.slice A6 n6 c6] infoCode1 rfl (by simp [Value.oneCell'])
 go_upto_region 4 with (fail)
 clear hst
 have hbn := Below.news (Below.refl w2.heap.size w2) (.cells #[.slice A6 n6 c6] 24)
 have hS3 := hS2.below hbn
 have hb3 := bnext hb2 hbn
 have hsz3 : w.heap.size + 1 + 1 < (w2.alloc (.cells #[.slice A6 n6 c6] 24)).heap.size := lt_of_block hS3.r3
 clear hbn hS2 hb2 hsz2
 obtain ⟨b6, hb6⟩ : ∃ b6, b6 = w2.heap.size := ⟨_, rfl⟩
 rw [← hb6]
 clear hb6
 generalize w2.alloc (.cells #[.slice A6 n6 c6] 24) = w3 at *
 have c3k : w3.cell? ⟨w.heap.size + 1, 0, none⟩ = some (.int .i64 p.kind) := (jC15 hS3.r2).1
 have c3i : w3.cell? ⟨w.heap.size + 1, 1, none⟩ = some (.string p.id) := (jC15 hS3.r2).2.1
 have hst := store_new (ty := 39) (T := 39) w3 #[.int .i64 0, .string ⟨#[]⟩, .string ⟨#[]⟩, .string ⟨#[]⟩, .string ⟨#[]⟩, .int .i64 0, .string ⟨#[]⟩, .string ⟨#[]⟩, .string ⟨#[]⟩, .string ⟨#[]⟩, .string ⟨#[]⟩, .bool false, .int .i64 0, .string ⟨#[]⟩, .string ⟨#[]⟩] #[.int .i64 p.kind, .string p.id, .string ⟨#[]⟩, .string ⟨#[]⟩, .string ⟨#[]⟩, .int .i64 0, .string ⟨#[]⟩, .string ⟨#[]⟩, .string ⟨#[]⟩, .string ⟨#[]⟩, .string ⟨#[]⟩, .bool false, .int .i64 0, .string ⟨#[]⟩, .string ⟨#[]⟩] (by kernel_rfl) rfl (all_oneCell_toArray (ptL.one (Dg.barePt p.kind p.id)))
 go_upto_region 5 with (fail)
 clear hst c3k c3i
 have hbn := Below.news (Below.refl w3.heap.size w3) (.cells #[.int .i64 p.kind, .string p.id, .string ⟨#[]⟩, .string ⟨#[]⟩, .string ⟨#[]⟩, .int .i64 0, .string ⟨#[]⟩, .string ⟨#[]⟩, .string ⟨#[]⟩, .string ⟨#[]⟩, .string ⟨#[]⟩, .bool false, .int .i64 0, .string ⟨#[]⟩, .string ⟨#[]⟩] 39)
 have r8 := heap_alloc_new w3 (.cells #[.int .i64 p.kind, .string p.id, .string ⟨#[]⟩, .string ⟨#[]⟩, .string ⟨#[]⟩, .int .i64 0, .string ⟨#[]⟩, .string ⟨#[]⟩, .string ⟨#[]⟩, .string ⟨#[]⟩, .string ⟨#[]⟩, .bool false, .int .i64 0, .string ⟨#[]⟩, .string ⟨#[]⟩] 39)
 have hS4 := hS3.below hbn
 have hb4 := bnext hb3 hbn
 clear hbn hS3 hb3
 obtain ⟨b8, hb8⟩ : ∃ b8, b8 = w3.heap.size := ⟨_, rfl⟩
 rw [← hb8] at r8 hsz3 ⊢
 clear hb8
 generalize w3.alloc (.cells #[.int .i64 p.kind, .string p.id, .string ⟨#[]⟩, .string ⟨#[]⟩, .string ⟨#[]⟩, .int .i64 0, .string ⟨#[]⟩, .string ⟨#[]⟩, .string ⟨#[]⟩, .string ⟨#[]⟩, .string ⟨#[]⟩, .bool false, .int .i64 0, .string ⟨#[]⟩, .string ⟨#[]⟩] 39) = w4 at *
 have hsz8 := lt_of_block r8
 have c4k : w4.cell? ⟨w.heap.size + 1, 0, none⟩ = some (.int .i64 p.kind) := (jC15 hS4.r2).1
 have c4i : w4.cell? ⟨w.heap.size + 1, 1, none⟩ = some (.string p.id) := (jC15 hS4.r2).2.1
 have c4c := iCells0 hS4.r1
 go_wp2_with (fail)
 refine (Code.find_of l A n c HL.out hn p.id w4 (hS4.its.more (by omega)) (i : Int) (findX_idx HI.out)).mono ?_
 rintro e w5 ⟨rfl, hbq⟩
 have hS5 := hS4.below hbq
 have hb5 := bnext hb4 hbq
 have r85 := iNext r8 hbq
 have hsz5 := lt_of_block r85
 clear hbq hS4 hb4 r8 c4k c4i c4c hsz8
 obtain ⟨hil, _⟩ := Dg.idxI_some HI.out
 have hyi : l[i] = y := by rw [← HY.out]; simp [List.getD_eq_getElem?_getD, hil]
 obtain ⟨b, off, hA⟩ := hS5.its.some hil
 subst hA
 have hRI := hide (show w5.rangeAt b (off + i * 7) [.int .i64 y.1, .string y.2, .string y.3, .string y.4, .string y.5, .string y.6, .bool y.7] from its_range hS5.its hil y hyi)
 have hst := store_new (ty := 37) (T := 37) w5 #[.int .i64 0, .string ⟨#[]⟩, .string ⟨#[]⟩, .string ⟨#[]⟩, .string ⟨#[]⟩, .string ⟨#[]⟩, .bool false] #[.int .i64 y.1, .string y.2, .string y.3, .string y.4, .string y.5, .string y.6, .bool y.7] (by kernel_rfl) rfl (all_oneCell_toArray (iLay.one y))
 have h0 : (0 : Int) ≤ (i : Int) := by omega
 have h1 : (i : Int) < (n : Int) := by have := HL.out; omega
 have c5c := iCells0 hS5.r1
 have HIL := hide hil; have HYI := hide hyi
 go_upto_region 9 with (with_reducible refine wpList_load_mid rfl 37 (.tmp 42) rfl b (off + i * 7) rfl _ _ hRI.out Try.underlying37 rfl (by kernel_rfl) ?_)
 clear hst hRI c5c
 have hbn := Below.news (Below.refl w5.heap.size w5) (.cells #[.int .i64 y.1, .string y.2, .string y.3, .string y.4, .string y.5, .string y.6, .bool y.7] 37)
 have r10 := heap_alloc_new w5 (.cells #[.int .i64 y.1, .string y.2, .string y.3, .string y.4, .string y.5, .string y.6, .bool y.7] 37)
 have hS6 := hS5.below hbn
 have hb6 := bnext hb5 hbn
 have r86 := iNext r85 hbn
 clear hbn hS5 hb5 r85
 obtain ⟨b10, hb10⟩ : ∃ b10, b10 = w5.heap.size := ⟨_, rfl⟩
 rw [← hb10] at r10 hsz5 ⊢
 clear hb10
 generalize w5.alloc (.cells #[.int .i64 y.1, .string y.2, .string y.3, .string y.4, .string y.5, .string y.6, .bool y.7] 37) = w6 at *
 have hsz6 := lt_of_block r10
 have c6k : w6.cell? ⟨w.heap.size + 1, 0, none⟩ = some (.int .i64 p.kind) := (jC15 hS6.r2).1
 go_upto_region 31 with (fail)
 clear c6k
 refine wp_region_noPanic ?_
 refine wp_region_L (fun X => X.heap[b10]? = some (.cells #[.int .i64 y.1, .string y.2, .string y.3, .string y.4, .string y.5, .string y.6, .bool y.7] 37 (0, 0))) 10 hmx ?_
 have hdr := (Below.refl w6.heap.size w6).drew
 have hS1 : (fun X : World => X.heap[b10]? = some (.cells #[.int .i64 y.1, .string y.2, .string y.3, .string y.4, .string y.5, .string y.6, .bool y.7] 37 (0, 0))) w6.drew := iNext r10 hdr
 have r8d := iNext r86 hdr
 have hS7 := hS6.below hdr
 have hb7 := bnext hb6 hdr
 clear hdr r10 r86 hS6 hb6
 generalize w6.drew = w7 at *
 refine tkY 0 12 ?_ rfl ?_ hS1 ?_
 rotate_left
 ·intro wS hS; go_simp; (try with_reducible rfl)
 simp only [Act.put, pu1, pu2, pu3, pu4, pu5, pu6]
 refine tkY 1 12 ?_ rfl ?_ hS1 ?_
 rotate_left
 ·intro wS hS; have hcs := iCells hS; have c4 := hcs.2.2.2.2.1; have c5 := hcs.2.2.2.2.2.1; clear hcs; go_simp; (try with_reducible rfl)
 simp only [Act.put, pu1, pu2, pu3, pu4, pu5, pu6]
 refine tkY 2 12 ?_ rfl ?_ hS1 ?_
 rotate_left
 ·intro wS hS; go_simp; (try with_reducible rfl)
 simp only [Act.put, pu1, pu2, pu3, pu4, pu5, pu6]
 refine tkY 3 12 ?_ rfl ?_ hS1 ?_
 rotate_left
 ·intro wS hS; have hcs := iCells hS; have c4 := hcs.2.2.2.2.1; have c5 := hcs.2.2.2.2.2.1; clear hcs; go_simp; (try with_reducible rfl)
 simp only [Act.put, pu1, pu2, pu3, pu4, pu5, pu6]
 refine onY 4 (by rfl) fun K hK => ?_
 go_simp
 refine hK.out _ _ (Or.inr hS1) ?_
 clear hK K
 try simp only [Act.put, pu1, pu2, pu3, pu4, pu5, pu6]
 refine onY 5 (by rfl) fun K hK => ?_
 go_simp
 refine hK.out _ _ (Or.inr hS1) ?_
 clear hK K
 try simp only [Act.put, pu1, pu2, pu3, pu4, pu5, pu6]
 refine onY 6 (by rfl) fun K hK => ?_
 have hst := store_part (ty := 9) w7 b8 9 #[.int .i64 p.kind, .string p.id, .string ⟨#[]⟩, .string ⟨#[]⟩, .string ⟨#[]⟩, .int .i64 0, .string ⟨#[]⟩, .string ⟨#[]⟩, .string ⟨#[]⟩, .string ⟨#[]⟩, .string ⟨#[]⟩, .bool false, .int .i64 0, .string ⟨#[]⟩, .string ⟨#[]⟩] (.string y.north) #[.int .i64 p.kind, .string p.id, .string ⟨#[]⟩, .string ⟨#[]⟩, .string ⟨#[]⟩, .int .i64 0, .string ⟨#[]⟩, .string ⟨#[]⟩, .string ⟨#[]⟩, .string y.north, .string ⟨#[]⟩, .bool false, .int .i64 0, .string ⟨#[]⟩, .string ⟨#[]⟩] r8d infoStr1 (show 9 + 1 ≤ 15 by decide) (one_str _) rfl
 have hS2 : (w7.setRow b8 #[.int .i64 p.kind, .string p.id, .string ⟨#[]⟩, .string ⟨#[]⟩, .string ⟨#[]⟩, .int .i64 0, .string ⟨#[]⟩, .string ⟨#[]⟩, .string ⟨#[]⟩, .string y.north, .string ⟨#[]⟩, .bool false, .int .i64 0, .string ⟨#[]⟩, .string ⟨#[]⟩]).heap[b10]? = some (.cells #[.int .i64 y.1, .string y.2, .string y.3, .string y.4, .string y.5, .string y.6, .bool y.7] 37 (0, 0)) := (setRow_other w7 b8 _ _ (by omega)).trans hS1
 have r82 := setRow_heap w7 b8 _ #[.int .i64 p.kind, .string p.id, .string ⟨#[]⟩, .string ⟨#[]⟩, .string ⟨#[]⟩, .int .i64 0, .string ⟨#[]⟩, .string ⟨#[]⟩, .string ⟨#[]⟩, .string y.north, .string ⟨#[]⟩, .bool false, .int .i64 0, .string ⟨#[]⟩, .string ⟨#[]⟩] _ _ r8d
 have hS8 := hS7.row (g := b8) (by omega) #[.int .i64 p.kind, .string p.id, .string ⟨#[]⟩, .string ⟨#[]⟩, .string ⟨#[]⟩, .int .i64 0, .string ⟨#[]⟩, .string ⟨#[]⟩, .string ⟨#[]⟩, .string y.north, .string ⟨#[]⟩, .bool false, .int .i64 0, .string ⟨#[]⟩, .string ⟨#[]⟩]
 have hb8 := below_setRow hb7 (by omega) (g := b8) #[.int .i64 p.kind, .string p.id, .string ⟨#[]⟩, .string ⟨#[]⟩, .string ⟨#[]⟩, .int .i64 0, .string ⟨#[]⟩, .string ⟨#[]⟩, .string ⟨#[]⟩, .string y.north, .string ⟨#[]⟩, .bool false, .int .i64 0, .string ⟨#[]⟩, .string ⟨#[]⟩]
 go_simp
 clear hst hS1 r8d hS7 hb7
 generalize w7.setRow b8 #[.int .i64 p.kind, .string p.id, .string ⟨#[]⟩, .string ⟨#[]⟩, .string ⟨#[]⟩, .int .i64 0, .string ⟨#[]⟩, .string ⟨#[]⟩, .string ⟨#[]⟩, .string y.north, .string ⟨#[]⟩, .bool false, .int .i64 0, .string ⟨#[]⟩, .string ⟨#[]⟩] = w8 at *
 refine hK.out _ _ (Or.inr hS2) ?_
 clear hK K
 have hS1 := hS2
 have r8d := r82
 have hS7 := hS8
 have hb7 := hb8
 clear hS2 r82 hS8 hb8
 try simp only [Act.put, pu1, pu2, pu3, pu4, pu5, pu6]
 refine onY 7 (by rfl) fun K hK => ?_
 go_simp
 refine hK.out _ _ (Or.inr hS1) ?_
 clear hK K
 try simp only [Act.put, pu1, pu2, pu3, pu4, pu5, pu6]
 refine onY 8 (by rfl) fun K hK => ?_
 go_simp
 refine hK.out _ _ (Or.inr hS1) ?_
 clear hK K
 try simp only [Act.put, pu1, pu2, pu3, pu4, pu5, pu6]
 refine onY 9 (by rfl) fun K hK => ?_
 have hst := store_part (ty := 9) w8 b8 10 #[.int .i64 p.kind, .string p.id, .string ⟨#[]⟩, .string ⟨#[]⟩, .string ⟨#[]⟩, .int .i64 0, .string ⟨#[]⟩, .string ⟨#[]⟩, .string ⟨#[]⟩, .string y.north, .string ⟨#[]⟩, .bool false, .int .i64 0, .string ⟨#[]⟩, .string ⟨#[]⟩] (.string y.south) #[.int .i64 p.kind, .string p.id, .string ⟨#[]⟩, .string ⟨#[]⟩, .string ⟨#[]⟩, .int .i64 0, .string ⟨#[]⟩, .string ⟨#[]⟩, .string ⟨#[]⟩, .string y.north, .string y.south, .bool false, .int .i64 0, .string ⟨#[]⟩, .string ⟨#[]⟩] r8d infoStr1 (show 10 + 1 ≤ 15 by decide) (one_str _) rfl
 have hS2 : (w8.setRow b8 #[.int .i64 p.kind, .string p.id, .string ⟨#[]⟩, .string ⟨#[]⟩, .string ⟨#[]⟩, .int .i64 0, .string ⟨#[]⟩, .string ⟨#[]⟩, .string ⟨#[]⟩, .string y.north, .string y.south, .bool false, .int .i64 0, .string ⟨#[]⟩, .string ⟨#[]⟩]).heap[b10]? = some (.cells #[.int .i64 y.1, .string y.2, .string y.3, .string y.4, .string y.5, .string y.6, .bool y.7] 37 (0, 0)) := (setRow_other w8 b8 _ _ (by omega)).trans hS1
 have r82 := setRow_heap w8 b8 _ #[.int .i64 p.kind, .string p.id, .string ⟨#[]⟩, .string ⟨#[]⟩, .string ⟨#[]⟩, .int .i64 0, .string ⟨#[]⟩, .string ⟨#[]⟩, .string ⟨#[]⟩, .string y.north, .string y.south, .bool false, .int .i64 0, .string ⟨#[]⟩, .string ⟨#[]⟩] _ _ r8d
 have hS8 := hS7.row (g := b8) (by omega) #[.int .i64 p.kind, .string p.id, .string ⟨#[]⟩, .string ⟨#[]⟩, .string ⟨#[]⟩, .int .i64 0, .string ⟨#[]⟩, .string ⟨#[]⟩, .string ⟨#[]⟩, .string y.north, .string y.south, .bool false, .int .i64 0, .string ⟨#[]⟩, .string ⟨#[]⟩]
 have hb8 := below_setRow hb7 (by omega) (g := b8) #[.int .i64 p.kind, .string p.id, .string ⟨#[]⟩, .string ⟨#[]⟩, .string ⟨#[]⟩, .int .i64 0, .string ⟨#[]⟩, .string ⟨#[]⟩, .string ⟨#[]⟩, .string y.north, .string y.south, .bool false, .int .i64 0, .string ⟨#[]⟩, .string ⟨#[]⟩]
 go_simp
 clear hst hS1 r8d hS7 hb7
 generalize w8.setRow b8 #[.int .i64 p.kind, .string p.id, .string ⟨#[]⟩, .string ⟨#[]⟩, .string ⟨#[]⟩, .int .i64 0, .string ⟨#[]⟩, .string ⟨#[]⟩, .string ⟨#[]⟩, .string y.north, .string y.south, .bool false, .int .i64 0, .string ⟨#[]⟩, .string ⟨#[]⟩] = w9 at *
 refine hK.out _ _ (Or.inr hS2) ?_
 clear hK K
 have hS1 := hS2
 have r8d := r82
 have hS7 := hS8
 have hb7 := hb8
 clear hS2 r82 hS8 hb8
 try simp only [Act.put, pu1, pu2, pu3, pu4, pu5, pu6]
 refine dnY ?_
 clear hS1
 have hst9 := store_row (ty := 39) w9 (w.heap.size + 1 + 1) #[.int .i64 0, .string ⟨#[]⟩, .string ⟨#[]⟩, .string ⟨#[]⟩, .string ⟨#[]⟩, .int .i64 0, .string ⟨#[]⟩, .string ⟨#[]⟩, .string ⟨#[]⟩, .string ⟨#[]⟩, .string ⟨#[]⟩, .bool false, .int .i64 0, .string ⟨#[]⟩, .string ⟨#[]⟩] #[.int .i64 p.kind, .string p.id, .string ⟨#[]⟩, .string ⟨#[]⟩, .string ⟨#[]⟩, .int .i64 0, .string ⟨#[]⟩, .string ⟨#[]⟩, .string ⟨#[]⟩, .string y.north, .string y.south, .bool false, .int .i64 0, .string ⟨#[]⟩, .string ⟨#[]⟩] hS7.r3 (by kernel_rfl) rfl (all_oneCell_toArray (ptL.one { Dg.barePt p.kind p.id with item := { Dg.zeroI with north := y.north, south := y.south } }))
 have r39 := setRow_heap w9 (w.heap.size + 1 + 1) _ #[.int .i64 p.kind, .string p.id, .string ⟨#[]⟩, .string ⟨#[]⟩, .string ⟨#[]⟩, .int .i64 0, .string ⟨#[]⟩, .string ⟨#[]⟩, .string ⟨#[]⟩, .string y.north, .string y.south, .bool false, .int .i64 0, .string ⟨#[]⟩, .string ⟨#[]⟩] _ _ hS7.r3
 have hb9 := below_setRow hb7 (by omega) (g := w.heap.size + 1 + 1) #[.int .i64 p.kind, .string p.id, .string ⟨#[]⟩, .string ⟨#[]⟩, .string ⟨#[]⟩, .int .i64 0, .string ⟨#[]⟩, .string ⟨#[]⟩, .string ⟨#[]⟩, .string y.north, .string y.south, .bool false, .int .i64 0, .string ⟨#[]⟩, .string ⟨#[]⟩]
 have hL8 := hide (range_of r8d 0 [.int .i64 p.kind, .string p.id, .string ⟨#[]⟩, .string ⟨#[]⟩, .string ⟨#[]⟩, .int .i64 0, .string ⟨#[]⟩, .string ⟨#[]⟩, .string ⟨#[]⟩, .string y.north, .string y.south, .bool false, .int .i64 0, .string ⟨#[]⟩, .string ⟨#[]⟩] rfl)
 go_wp2_with (with_reducible refine wpList_load_mid rfl 39 (.tmp 8) rfl b8 0 rfl _ _ hL8.out Try.underlying39 rfl (by kernel_rfl) ?_)
 refine bodyPost_ret (results_c8 Try.results10 _ _ (w.heap.size + 1 + 1) 39 #[.int .i64 p.kind, .string p.id, .string ⟨#[]⟩, .string ⟨#[]⟩, .string ⟨#[]⟩, .int .i64 0, .string ⟨#[]⟩, .string ⟨#[]⟩, .string ⟨#[]⟩, .string y.north, .string y.south, .bool false, .int .i64 0, .string ⟨#[]⟩, .string ⟨#[]⟩] (0, 0) _ rfl r39 Try.underlying39 (by kernel_rfl)) rfl ⟨rfl, hb9⟩
end Go.Proofs.Ytgmimhgeigbpkaa
/- Invert of package patch: moves, and all kinds. No conditions but those that each theorem states. -/
namespace Go.Proofs.Ytgmimhgeigbpkaa
open Go Go.RowKit Go.Sort Go.Maps
attribute [local go_sem] Oper.semAt_some
/-- The loop of Invert left: the last item that has come is of the division; its Id is laid in. -/
def IvX (w w8 : World) (b8 : Nat) (p : Dg.Pt) (y : Dg.It) (c0 c : Code) (pre : List (Nat × Dg.It)) (W : World) : Prop := c = c0 ∧ (∃ q u, pre = q ++ [u] ∧ (∀ z ∈ q, z.2.parent ≠ y.parent) ∧ u.2.parent = y.parent ∧ W.heap[b8]? = some (.cells #[.int .i64 p.kind, .string p.id, .string y.parent, .string u.2.id, .string ⟨#[]⟩, .int .i64 0, .string ⟨#[]⟩, .string ⟨#[]⟩, .string ⟨#[]⟩, .string ⟨#[]⟩, .string ⟨#[]⟩, .bool false, .int .i64 0, .string ⟨#[]⟩, .string ⟨#[]⟩] 39 (0, 0))) ∧ (∀ k, k < w8.heap.size → k ≠ b8 → W.heap[k]? = w8.heap[k]?) ∧ Below w.heap.size w W
theorem IvX.own (w w8 : World) (b8 : Nat) (p : Dg.Pt) (y : Dg.It) (c0 : Code) (B : Nat) (hB : w.heap.size ≤ B) (h8 : w8.heap.size ≤ B) (c : Code) : OwnFrom B (IvX w w8 b8 p y c0 c) := fun pre W W' row ⟨h0, ⟨q, u, h1, h2, h3, h4⟩, h6, h5⟩ hg hr => by
 refine ⟨h0, ⟨q, u, h1, h2, h3, ?_⟩, fun k hk hne => ?_, ownFrom_below (β := Unit) (Nat.le_refl _) hB () W W' row h5 hg hr⟩
 ·refine (hg.block b8 (lt_of_block h4) (fun e => ?_)).trans h4
  obtain ⟨_, o', h6, h7⟩ := hr b8 e.symm
  rw [h4] at h6
  cases h6
  cases h7
 ·refine Eq.trans (hg.block k ?_ (fun e => ?_)) (h6 k hk hne)
  ·have h9 := h6 k hk hne
   rw [Array.getElem?_eq_getElem hk] at h9
   exact (Array.getElem?_eq_some_iff.1 h9).1
  ·have := (hr k e.symm).1
   omega
/-- The loop's variable is boxed ahead of its body; the frame is told by what the assignment makes of it. -/
theorem wpIn_rangeFunc_ownB {P : Program} {F : Fence} {n : Nat} {α : Type} {g : Operand} {ps : Array Tmp} {assign body : Code} {Q : Exit → Act → World → Prop} {a : Act} {w : World} (R : α → Obj) (bt : Tmp) (hR : ∀ x, (R x).isCells = true)
  (hro : F.round = none) (h1 : 1 ≤ n) {gf : Nat} {lb : Array Value} (hg : a.eval g = .func (.func gf) #[] lb) (hFg : F.fn gf) (eg : ∀ args w, (callFunc gf args).run P w = .ok (.enter gf args) w)
  {encs : α → Array Value} {Kp : World → World → Prop} {S Sp : List α → Prop} {N : Nat} {w0 : World} (hseq : SeqStopsK F (n - 1) P gf lb encs Kp S Sp N w0)
  (hKt : ∀ {A B C : World}, Kp A B → Kp B C → Kp A C) (hKb : ∀ (W : World) (l : Nat) (o o' : Obj), w.heap.size ≤ l → W.heap[l]? = some o → o.isCells = false → o.isWalk = false → Kp W (W.putObj l o')) (hb0 : Below w0.heap.size w0 w) (hps : ∀ x, (encs x).size = ps.size)
  (I : List α → World → Prop) (Ix : Code → List α → World → Prop) (hI : OwnFrom w.heap.size I) (hIx : ∀ c, OwnFrom w.heap.size (Ix c)) (h0 : I [] w)
  (hassign : ∀ (l : Nat) (pre : List α) (x : α) (W : World) (K : Act → World → Prop), I pre W → (∀ Bx W' T, KeepsFrom w.heap.size W W' → Kp W W' → I pre W' → w.heap.size ≤ Bx → W'.heap[Bx]? = some (R x) → T = ((ps.zip (encs x)).foldl (fun t (p, v) => t.setIfInBounds p v) a.tmps).setIfInBounds bt (.pointer (some ⟨Bx, 0, none⟩)) → K { tmps := T, defers := [] } W') →
   assign.wpIn (F.inRound l) (n - 1 - 1) P (Exit.then K (fun _ _ _ => False)) { tmps := (ps.zip (encs x)).foldl (fun t (p, v) => t.setIfInBounds p v) a.tmps, defers := [] } W)
  (hbody : ∀ (l : Nat) (pre : List α) (x : α) (Bx : Nat) (T : Array Value) (W : World), w.heap.size ≤ l → w.heap.size ≤ Bx → I pre W → W.heap[Bx]? = some (R x) → T = ((ps.zip (encs x)).foldl (fun t (p, v) => t.setIfInBounds p v) a.tmps).setIfInBounds bt (.pointer (some ⟨Bx, 0, none⟩)) → pre.length < N → body.wpIn (F.inRound l) (n - 1 - 1) P (ownPostG w.heap.size Kp I Ix (pre ++ [x]) W) { tmps := T, defers := [] } W)
  (hdone : ∀ (D : Nat) (xs : List α) (W : World), w.heap.size ≤ D → S xs → I xs W → W.heap[D]? = some (.deferred (some [])) → Q .normal { a with defers := { target := .collected D, args := #[] } :: a.defers } W)
  (hstop : ∀ (D : Nat) (c : Code) (pre : List α) (W : World), w.heap.size ≤ D → Sp pre → Ix c pre W → W.heap[D]? = some (.deferred (some [])) → c.wpIn F n P Q { a with defers := { target := .collected D, args := #[] } :: a.defers } W) :
  (Code.rangeFunc g ps assign body).wpIn F n P Q a w := by
 refine wpIn_rangeFunc_ownH hro h1 hg hFg eg hseq (fun h k => hKt h k) hKb hb0 hps I Ix hI hIx h0 (fun x a' W => ∃ Bx T, w.heap.size ≤ Bx ∧ W.heap[Bx]? = some (R x) ∧ T = ((ps.zip (encs x)).foldl (fun t (p, v) => t.setIfInBounds p v) a.tmps).setIfInBounds bt (.pointer (some ⟨Bx, 0, none⟩)) ∧ a' = { tmps := T, defers := [] }) ?_ ?_ ?_ hdone hstop
 ·rintro x a' _ W W' row ⟨Bx, T, h1, h2, h3, h4⟩ hg hr
  refine ⟨Bx, T, h1, ?_, h3, h4⟩
  refine (hg.block Bx (Array.getElem?_eq_some_iff.1 h2).1 (fun e => ?_)).trans h2
  obtain ⟨_, o', h6, h7⟩ := hr Bx e.symm
  rw [h2] at h6
  injection h6 with h6
  rw [← h6, hR] at h7
  cases h7
 ·intro l pre x W K hi hK
  exact hassign l pre x W K hi fun Bx W' T q1 q2 q3 q4 q5 q6 => hK _ _ q1 q2 q3 ⟨Bx, T, q4, q5, q6, rfl⟩
 ·rintro l pre x a' W hl _ hi ⟨Bx, T, q1, q2, q3, rfl⟩ hlt
  exact hbody l pre x Bx T W hl q1 hi q2 q3 hlt
set_option maxRecDepth 100000 in
set_option maxHeartbeats 16000000 in
attribute [-go_sem] Instr.storeAt in
theorem inv_move (l : List Dg.It) (A : Option Addr) (n c : Nat) (hl : l.length = n) (hn : n ≤ 1048576) (hnc : n ≤ c) (hv : Dg.validC l = true) (p : Dg.Pt) (hp : PtW p) (h2 : p.kind ≠ 2) (l2 : List Dg.It) (ha : Dg.applyP l p = (l2, 0)) (k1 : (p.kind == 1) = false) (k2 : (p.kind == 2) = false) (k3 : (p.kind == 3) = false) (k4 : (p.kind == 4) = true) (i : Nat) (hi : Dg.idxI l p.id = some i) (y : Dg.It) (hy : l.getD i Dg.zeroI = y) (R : ByteArray) (hNb : Dg.nbP l i y.parent = R) (w : World) (hI : Its w w.heap.size A l) :
  Calls Try.prog 10 #[.agg #[.slice A n c], .agg #[.int .i64 p.1, .string p.2, .string p.3, .string p.4, .string p.5, .int .i64 p.6.1, .string p.6.2, .string p.6.3, .string p.6.4, .string p.6.5, .string p.6.6, .bool p.6.7, .int .i64 p.7, .string p.8, .string p.9]] w fun e w' => e = .returned (.tuple #[.agg #[.int .i64 p.kind, .string p.id, .string y.parent, .string R, .string ⟨#[]⟩, .int .i64 0, .string ⟨#[]⟩, .string ⟨#[]⟩, .string ⟨#[]⟩, .string ⟨#[]⟩, .string ⟨#[]⟩, .bool false, .int .i64 0, .string ⟨#[]⟩, .string ⟨#[]⟩], .int .i64 0]) ∧ Below w.heap.size w w' := by
 obtain ⟨r1, r2, r3, hb1, hs⟩ := iAlloc3 w (.cells #[.slice A n c] 24) (.cells #[.int .i64 p.1, .string p.2, .string p.3, .string p.4, .string p.5, .int .i64 p.6.1, .string p.6.2, .string p.6.3, .string p.6.4, .string p.6.5, .string p.6.6, .bool p.6.7, .int .i64 p.7, .string p.8, .string p.9] 39) (.cells #[.int .i64 0, .string ⟨#[]⟩, .string ⟨#[]⟩, .string ⟨#[]⟩, .string ⟨#[]⟩, .int .i64 0, .string ⟨#[]⟩, .string ⟨#[]⟩, .string ⟨#[]⟩, .string ⟨#[]⟩, .string ⟨#[]⟩, .bool false, .int .i64 0, .string ⟨#[]⟩, .string ⟨#[]⟩] 39)
 have hmx : Try.prog.follows .mixedOrders = true := by kernel_rfl
 have hS1 : InS w.heap.size A n c l p (((w.alloc (.cells #[.slice A n c] 24)).alloc (.cells #[.int .i64 p.1, .string p.2, .string p.3, .string p.4, .string p.5, .int .i64 p.6.1, .string p.6.2, .string p.6.3, .string p.6.4, .string p.6.5, .string p.6.6, .bool p.6.7, .int .i64 p.7, .string p.8, .string p.9] 39)).alloc (.cells #[.int .i64 0, .string ⟨#[]⟩, .string ⟨#[]⟩, .string ⟨#[]⟩, .string ⟨#[]⟩, .int .i64 0, .string ⟨#[]⟩, .string ⟨#[]⟩, .string ⟨#[]⟩, .string ⟨#[]⟩, .string ⟨#[]⟩, .bool false, .int .i64 0, .string ⟨#[]⟩, .string ⟨#[]⟩] 39)) := ⟨r1, r2, r3, hI.below hb1⟩
 have HL := hide hl; have HV := hide hv; have HP := hide hp; have H2 := hide h2; have HA := hide ha; have HS := hide hs
 clear r1 r2 r3 hI hl hv hp h2 ha hs
 have HI := hide hi; have HY := hide hy; have HNB := hide hNb
 clear hi hy hNb
 have c1 := iCells0 hS1.r1
 refine (callsIn_wide (n := 5)).1 ?_
 refine callsIn_of_wp_marks Try.func10 rfl trivial ?_ rfl
 simp only [Try.ntmps10, List.size_toArray, List.length_cons, List.length_nil, Nat.reduceAdd, Nat.reduceSub, Array.replicate_succ, Array.replicate_zero, List.push_toArray, List.append_toArray, List.nil_append, List.cons_append]
 refine wpIn_wide.2 ?_
 go_upto_region 1 with (fail)
 generalize ((w.alloc (.cells #[.slice A n c] 24)).alloc (.cells #[.int .i64 p.1, .string p.2, .string p.3, .string p.4, .string p.5, .int .i64 p.6.1, .string p.6.2, .string p.6.3, .string p.6.4, .string p.6.5, .string p.6.6, .bool p.6.7, .int .i64 p.7, .string p.8, .string p.9] 39)).alloc (.cells #[.int .i64 0, .string ⟨#[]⟩, .string ⟨#[]⟩, .string ⟨#[]⟩, .string ⟨#[]⟩, .int .i64 0, .string ⟨#[]⟩, .string ⟨#[]⟩, .string ⟨#[]⟩, .string ⟨#[]⟩, .string ⟨#[]⟩, .bool false, .int .i64 0, .string ⟨#[]⟩, .string ⟨#[]⟩] 39) = w1 at *
 have hL3 := hide (range_of hS1.r2 0 [.int .i64 p.1, .string p.2, .string p.3, .string p.4, .string p.5, .int .i64 p.6.1, .string p.6.2, .string p.6.3, .string p.6.4, .string p.6.5, .string p.6.6, .bool p.6.7, .int .i64 p.7, .string p.8, .string p.9] rfl)
 have hsz1 : w.heap.size + 1 + 1 < w1.heap.size := lt_of_block hS1.r3
 go_wp2_with (with_reducible refine wpList_load_mid rfl 39 (.tmp 3) rfl (w.heap.size + 1) 0 rfl _ _ hL3.out Try.underlying39 rfl (by kernel_rfl) ?_)
 refine (apply_of l A n c HL.out hn hnc (valid_itw HV.out) p HP.out H2.out w1 (hS1.its.more (by omega))).mono ?_
 rintro e w2 ⟨v', rfl, hO, hbq⟩
 rw [HA.out] at hO ⊢
 obtain ⟨A6, c6, rfl, _, _⟩ := hO.row
 generalize l2.length = n6 at *
 have hS2 := hS1.below hbq
 have hb2 := bnext hb1 hbq
 have hsz2 : w.heap.size + 1 + 1 < w2.heap.size := lt_of_block hS2.r3
 clear hbq hS1 hb1 c1 hL3 hO hsz1
 have hst := store_new (ty := 24) (T := 24) w2 #[.slice none 0 0] #[.slice A6 n6 c6] infoCode1 rfl (by simp [Value.oneCell'])
 go_upto_region 4 with (fail)
 clear hst
 have hbn := Below.news (Below.refl w2.heap.size w2) (.cells #[.slice A6 n6 c6] 24)
 have hS3 := hS2.below hbn
 have hb3 := bnext hb2 hbn
 have hsz3 : w.heap.size + 1 + 1 < (w2.alloc (.cells #[.slice A6 n6 c6] 24)).heap.size := lt_of_block hS3.r3
 clear hbn hS2 hb2 hsz2
 obtain ⟨b6, hb6⟩ : ∃ b6, b6 = w2.heap.size := ⟨_, rfl⟩
 rw [← hb6]
 clear hb6
 generalize w2.alloc (.cells #[.slice A6 n6 c6] 24) = w3 at *
 have c3k : w3.cell? ⟨w.heap.size + 1, 0, none⟩ = some (.int .i64 p.kind) := (jC15 hS3.r2).1
 have c3i : w3.cell? ⟨w.heap.size + 1, 1, none⟩ = some (.string p.id) := (jC15 hS3.r2).2.1
 have hst := store_new (ty := 39) (T := 39) w3 #[.int .i64 0, .string ⟨#[]⟩, .string ⟨#[]⟩, .string ⟨#[]⟩, .string ⟨#[]⟩, .int .i64 0, .string ⟨#[]⟩, .string ⟨#[]⟩, .string ⟨#[]⟩, .string ⟨#[]⟩, .string ⟨#[]⟩, .bool false, .int .i64 0, .string ⟨#[]⟩, .string ⟨#[]⟩] #[.int .i64 p.kind, .string p.id, .string ⟨#[]⟩, .string ⟨#[]⟩, .string ⟨#[]⟩, .int .i64 0, .string ⟨#[]⟩, .string ⟨#[]⟩, .string ⟨#[]⟩, .string ⟨#[]⟩, .string ⟨#[]⟩, .bool false, .int .i64 0, .string ⟨#[]⟩, .string ⟨#[]⟩] (by kernel_rfl) rfl (all_oneCell_toArray (ptL.one (Dg.barePt p.kind p.id)))
 go_upto_region 5 with (fail)
 clear hst c3k c3i
 have hbn := Below.news (Below.refl w3.heap.size w3) (.cells #[.int .i64 p.kind, .string p.id, .string ⟨#[]⟩, .string ⟨#[]⟩, .string ⟨#[]⟩, .int .i64 0, .string ⟨#[]⟩, .string ⟨#[]⟩, .string ⟨#[]⟩, .string ⟨#[]⟩, .string ⟨#[]⟩, .bool false, .int .i64 0, .string ⟨#[]⟩, .string ⟨#[]⟩] 39)
 have r8 := heap_alloc_new w3 (.cells #[.int .i64 p.kind, .string p.id, .string ⟨#[]⟩, .string ⟨#[]⟩, .string ⟨#[]⟩, .int .i64 0, .string ⟨#[]⟩, .string ⟨#[]⟩, .string ⟨#[]⟩, .string ⟨#[]⟩, .string ⟨#[]⟩, .bool false, .int .i64 0, .string ⟨#[]⟩, .string ⟨#[]⟩] 39)
 have hS4 := hS3.below hbn
 have hb4 := bnext hb3 hbn
 clear hbn hS3 hb3
 obtain ⟨b8, hb8⟩ : ∃ b8, b8 = w3.heap.size := ⟨_, rfl⟩
 rw [← hb8] at r8 hsz3 ⊢
 clear hb8
 generalize w3.alloc (.cells #[.int .i64 p.kind, .string p.id, .string ⟨#[]⟩, .string ⟨#[]⟩, .string ⟨#[]⟩, .int .i64 0, .string ⟨#[]⟩, .string ⟨#[]⟩, .string ⟨#[]⟩, .string ⟨#[]⟩, .string ⟨#[]⟩, .bool false, .int .i64 0, .string ⟨#[]⟩, .string ⟨#[]⟩] 39) = w4 at *
 have hsz8 := lt_of_block r8
 have c4k : w4.cell? ⟨w.heap.size + 1, 0, none⟩ = some (.int .i64 p.kind) := (jC15 hS4.r2).1
 have c4i : w4.cell? ⟨w.heap.size + 1, 1, none⟩ = some (.string p.id) := (jC15 hS4.r2).2.1
 have c4c := iCells0 hS4.r1
 go_wp2_with (fail)
 refine (Code.find_of l A n c HL.out hn p.id w4 (hS4.its.more (by omega)) (i : Int) (findX_idx HI.out)).mono ?_
 rintro e w5 ⟨rfl, hbq⟩
 have hS5 := hS4.below hbq
 have hb5 := bnext hb4 hbq
 have r85 := iNext r8 hbq
 have hsz5 := lt_of_block r85
 clear hbq hS4 hb4 r8 c4k c4i c4c hsz8
 obtain ⟨hil, _⟩ := Dg.idxI_some HI.out
 have hyi : l[i] = y := by rw [← HY.out]; simp [List.getD_eq_getElem?_getD, hil]
 obtain ⟨b, off, hA⟩ := hS5.its.some hil
 subst hA
 have hRI := hide (show w5.rangeAt b (off + i * 7) [.int .i64 y.1, .string y.2, .string y.3, .string y.4, .string y.5, .string y.6, .bool y.7] from its_range hS5.its hil y hyi)
 have hst := store_new (ty := 37) (T := 37) w5 #[.int .i64 0, .string ⟨#[]⟩, .string ⟨#[]⟩, .string ⟨#[]⟩, .string ⟨#[]⟩, .string ⟨#[]⟩, .bool false] #[.int .i64 y.1, .string y.2, .string y.3, .string y.4, .string y.5, .string y.6, .bool y.7] (by kernel_rfl) rfl (all_oneCell_toArray (iLay.one y))
 have h0 : (0 : Int) ≤ (i : Int) := by omega
 have h1 : (i : Int) < (n : Int) := by have := HL.out; omega
 have c5c := iCells0 hS5.r1
 have HIL := hide hil; have HYI := hide hyi
 go_upto_region 9 with (with_reducible refine wpList_load_mid rfl 37 (.tmp 42) rfl b (off + i * 7) rfl _ _ hRI.out Try.underlying37 rfl (by kernel_rfl) ?_)
 clear hst hRI c5c
 have hbn := Below.news (Below.refl w5.heap.size w5) (.cells #[.int .i64 y.1, .string y.2, .string y.3, .string y.4, .string y.5, .string y.6, .bool y.7] 37)
 have r10 := heap_alloc_new w5 (.cells #[.int .i64 y.1, .string y.2, .string y.3, .string y.4, .string y.5, .string y.6, .bool y.7] 37)
 have hS6 := hS5.below hbn
 have hb6 := bnext hb5 hbn
 have r86 := iNext r85 hbn
 clear hbn hS5 hb5 r85
 obtain ⟨b10, hb10⟩ : ∃ b10, b10 = w5.heap.size := ⟨_, rfl⟩
 rw [← hb10] at r10 hsz5 ⊢
 clear hb10
 generalize w5.alloc (.cells #[.int .i64 y.1, .string y.2, .string y.3, .string y.4, .string y.5, .string y.6, .bool y.7] 37) = w6 at *
 have hsz6 := lt_of_block r10
 have c6k : w6.cell? ⟨w.heap.size + 1, 0, none⟩ = some (.int .i64 p.kind) := (jC15 hS6.r2).1
 have cy : w6.cell? ⟨b10, 2, none⟩ = some (.string y.parent) := (iCells r10).2.2.1
 have hst := store_part (ty := 9) w6 b8 2 #[.int .i64 p.kind, .string p.id, .string ⟨#[]⟩, .string ⟨#[]⟩, .string ⟨#[]⟩, .int .i64 0, .string ⟨#[]⟩, .string ⟨#[]⟩, .string ⟨#[]⟩, .string ⟨#[]⟩, .string ⟨#[]⟩, .bool false, .int .i64 0, .string ⟨#[]⟩, .string ⟨#[]⟩] (.string y.parent) #[.int .i64 p.kind, .string p.id, .string y.parent, .string ⟨#[]⟩, .string ⟨#[]⟩, .int .i64 0, .string ⟨#[]⟩, .string ⟨#[]⟩, .string ⟨#[]⟩, .string ⟨#[]⟩, .string ⟨#[]⟩, .bool false, .int .i64 0, .string ⟨#[]⟩, .string ⟨#[]⟩] r86 infoStr1 (show 2 + 1 ≤ 15 by decide) (one_str _) rfl
 have r87 := setRow_heap w6 b8 _ #[.int .i64 p.kind, .string p.id, .string y.parent, .string ⟨#[]⟩, .string ⟨#[]⟩, .int .i64 0, .string ⟨#[]⟩, .string ⟨#[]⟩, .string ⟨#[]⟩, .string ⟨#[]⟩, .string ⟨#[]⟩, .bool false, .int .i64 0, .string ⟨#[]⟩, .string ⟨#[]⟩] _ _ r86
 have r107 := (setRow_other w6 b8 b10 #[.int .i64 p.kind, .string p.id, .string y.parent, .string ⟨#[]⟩, .string ⟨#[]⟩, .int .i64 0, .string ⟨#[]⟩, .string ⟨#[]⟩, .string ⟨#[]⟩, .string ⟨#[]⟩, .string ⟨#[]⟩, .bool false, .int .i64 0, .string ⟨#[]⟩, .string ⟨#[]⟩] (by omega)).trans r10
 have hS7 := hS6.row (g := b8) (by omega) #[.int .i64 p.kind, .string p.id, .string y.parent, .string ⟨#[]⟩, .string ⟨#[]⟩, .int .i64 0, .string ⟨#[]⟩, .string ⟨#[]⟩, .string ⟨#[]⟩, .string ⟨#[]⟩, .string ⟨#[]⟩, .bool false, .int .i64 0, .string ⟨#[]⟩, .string ⟨#[]⟩]
 have hb7 := below_setRow hb6 (by omega) (g := b8) #[.int .i64 p.kind, .string p.id, .string y.parent, .string ⟨#[]⟩, .string ⟨#[]⟩, .int .i64 0, .string ⟨#[]⟩, .string ⟨#[]⟩, .string ⟨#[]⟩, .string ⟨#[]⟩, .string ⟨#[]⟩, .bool false, .int .i64 0, .string ⟨#[]⟩, .string ⟨#[]⟩]
 have hsz7 : b8 < b10 ∧ b10 < (w6.setRow b8 #[.int .i64 p.kind, .string p.id, .string y.parent, .string ⟨#[]⟩, .string ⟨#[]⟩, .int .i64 0, .string ⟨#[]⟩, .string ⟨#[]⟩, .string ⟨#[]⟩, .string ⟨#[]⟩, .string ⟨#[]⟩, .bool false, .int .i64 0, .string ⟨#[]⟩, .string ⟨#[]⟩]).heap.size := by rw [size_setRow]; exact ⟨hsz5, hsz6⟩
 go_upto_region 22 with (fail)
 clear hst c6k cy
 generalize w6.setRow b8 #[.int .i64 p.kind, .string p.id, .string y.parent, .string ⟨#[]⟩, .string ⟨#[]⟩, .int .i64 0, .string ⟨#[]⟩, .string ⟨#[]⟩, .string ⟨#[]⟩, .string ⟨#[]⟩, .string ⟨#[]⟩, .bool false, .int .i64 0, .string ⟨#[]⟩, .string ⟨#[]⟩] = w7 at *
 have c7 := iCells0 hS7.r1
 have h2' : (i : Int) ≤ (c : Int) := by omega
 go_wp2_with (fail)
 refine (backf_any _ i c w7).mono ?_
 rintro e w' ⟨rfl, rfl⟩
 have hbn := Below.news (Below.refl w7.heap.size w7) (.cells #[.slice (some ⟨b, off, none⟩) i c] 22)
 have rB := heap_alloc_new w7 (.cells #[.slice (some ⟨b, off, none⟩) i c] 22)
 have hS8 := hS7.below hbn
 have hb8 := bnext hb7 hbn
 have r88 := iNext r87 hbn
 have r108 := iNext r107 hbn
 have hs8 : w7.heap.size < (w7.alloc (.cells #[.slice (some ⟨b, off, none⟩) i c] 22)).heap.size := by simp
 clear c7 hbn hS7 hb7 r87 r107
 obtain ⟨bs, hbs⟩ : ∃ bs, bs = w7.heap.size := ⟨_, rfl⟩
 rw [← hbs] at rB hs8 hsz7 ⊢
 clear hbs
 generalize w7.alloc (.cells #[.slice (some ⟨b, off, none⟩) i c] 22) = w8 at *
 have hcB := iCells0 rB
 have hl8 : (l.take i).length = i := by rw [List.length_take, HL.out]; omega
 have hI8 : Its w8 w8.heap.size (some ⟨b, off, none⟩) (l.take i) := (hS8.its.more (by omega)).take i
 have HL8 := hide hl8; have HI8 := hide hI8; have HB8 := hide hb8; have HSZ := hide hsz7
 clear hl8 hI8
 go_wp2_with (fail)
 refine (wpIn_wide (n := 5)).1 ?_
 refine wpIn_rangeFunc_ownB (n := 5) (fun x : Nat × Dg.It => .cells #[.int .i64 x.2.1, .string x.2.2, .string x.2.3, .string x.2.4, .string x.2.5, .string x.2.6, .bool x.2.7] 37 (0, 0)) 15 (fun _ => rfl) rfl (by omega) (gf := 42) (lb := #[.pointer (some ⟨bs, 0, none⟩)]) rfl trivial (enters_of Try.func42 (by kernel_rfl) rfl)
  (back_stops 4 (by omega) bs w8.heap.size (some ⟨b, off, none⟩) i c (l.take i) HL8.out (by omega) w8 hs8 (Nat.le_refl _) hcB HI8.out) (fun h k => belowK_t h k) (belowK_b (Nat.le_refl _)) (Below.refl _ _) (fun _ => rfl)
  (NbI w8 y.parent) (IvX w w8 b8 p y (.exit 1)) (NbI.own w8 y.parent) (IvX.own w w8 b8 p y _ _ hb8.size (Nat.le_refl _)) ⟨fun _ hy => (by cases hy), Below.refl _ _⟩ ?assign ?body ?done ?stop
 case assign =>
  rintro r pre ⟨ji, x⟩ W K ⟨hpre, hB⟩ hK
  simp only [encB] at hK ⊢
  have hst := store_new (ty := 37) (T := 37) W #[.int .i64 0, .string ⟨#[]⟩, .string ⟨#[]⟩, .string ⟨#[]⟩, .string ⟨#[]⟩, .string ⟨#[]⟩, .bool false] #[.int .i64 x.1, .string x.2, .string x.3, .string x.4, .string x.5, .string x.6, .bool x.7] (by kernel_rfl) rfl (all_oneCell_toArray (iLay.one x))
  gi_wp2
  refine hK W.heap.size _ _ ((KeepsOthers.alloc _ _).from _) ((Below.refl _ W).alloc hB.size _) ⟨hpre, hB.alloc hB.size _⟩ hB.size (heap_alloc_new _ _) ?_
  first | kernel_rfl | simp
 case body =>
  rintro r pre ⟨ji, x⟩ Bx T W hl hBx ⟨hpre, hB⟩ bX hT hlt
  simp only [encB, List.zip_toArray, List.zip_cons_cons, List.zip_nil_left, List.foldl_toArray, List.foldl_cons, List.foldl_nil, List.setIfInBounds_toArray, List.set_cons_succ, List.set_cons_zero] at hT
  subst hT
  have hf := fun j => cell_of_row _ _ j _ _ _ bX
  have f2 : W.cell? ⟨Bx, 2, none⟩ = some (.string x.parent) := hf 2
  have f1 : W.cell? ⟨Bx, 1, none⟩ = some (.string x.id) := hf 1
  have r8W := iNext r88 hB
  have r10W := iNext r108 hB
  have fy : W.cell? ⟨b10, 2, none⟩ = some (.string y.parent) := (iCells r10W).2.2.1
  have hst := store_part (ty := 9) W b8 3 #[.int .i64 p.kind, .string p.id, .string y.parent, .string ⟨#[]⟩, .string ⟨#[]⟩, .int .i64 0, .string ⟨#[]⟩, .string ⟨#[]⟩, .string ⟨#[]⟩, .string ⟨#[]⟩, .string ⟨#[]⟩, .bool false, .int .i64 0, .string ⟨#[]⟩, .string ⟨#[]⟩] (.string x.id) #[.int .i64 p.kind, .string p.id, .string y.parent, .string x.id, .string ⟨#[]⟩, .int .i64 0, .string ⟨#[]⟩, .string ⟨#[]⟩, .string ⟨#[]⟩, .string ⟨#[]⟩, .string ⟨#[]⟩, .bool false, .int .i64 0, .string ⟨#[]⟩, .string ⟨#[]⟩] r8W infoStr1 (show 3 + 1 ≤ 15 by decide) (one_str _) rfl
  have HBW := hide hB
  have HRW := hide (setRow_heap W b8 _ #[.int .i64 p.kind, .string p.id, .string y.parent, .string x.id, .string ⟨#[]⟩, .int .i64 0, .string ⟨#[]⟩, .string ⟨#[]⟩, .string ⟨#[]⟩, .string ⟨#[]⟩, .string ⟨#[]⟩, .bool false, .int .i64 0, .string ⟨#[]⟩, .string ⟨#[]⟩] _ _ r8W)
  clear hf bX r8W r10W hlt hl
  by_cases he : x.parent = y.parent
  ·gi_wp2
   have hsz := HSZ.out
   exact ⟨⟨by simp, fun k o hk ho _ => (setRow_other _ _ k _ (by omega)).trans ho⟩, rfl, ⟨pre, (ji, x), rfl, hpre, he, HRW.out⟩, fun k hk hne => (setRow_other _ _ k _ hne).trans (HBW.out.block k hk), below_setRow (HB8.out.trans (HBW.out.mono HB8.out.size)) (by omega) _⟩
  ·have hex : (x.parent.toList == y.parent.toList) = false := by
    rw [← dec_beq]
    exact decide_eq_false he
   gi_wp2
   exact ⟨KeepsFrom.refl _ _, Below.refl _ _, fun u hu => (List.mem_append.1 hu).elim (hpre u) (fun h => by
    obtain rfl := List.mem_singleton.1 h
    exact he), HBW.out⟩
 case done =>
  rintro D xs W hD rfl ⟨hpre, hB⟩ hK
  have hst0 : True := trivial
  have hnil : R = ⟨#[]⟩ := by
   rw [← HNB.out]
   refine nb_none (l := l.take i) ?_
   rw [HL8.out]
   exact hpre
  subst hnil
  have r3W := iNext hS8.r3 hB
  have hst9 := store_row (ty := 39) W (w.heap.size + 1 + 1) #[.int .i64 0, .string ⟨#[]⟩, .string ⟨#[]⟩, .string ⟨#[]⟩, .string ⟨#[]⟩, .int .i64 0, .string ⟨#[]⟩, .string ⟨#[]⟩, .string ⟨#[]⟩, .string ⟨#[]⟩, .string ⟨#[]⟩, .bool false, .int .i64 0, .string ⟨#[]⟩, .string ⟨#[]⟩] #[.int .i64 p.kind, .string p.id, .string y.parent, .string ⟨#[]⟩, .string ⟨#[]⟩, .int .i64 0, .string ⟨#[]⟩, .string ⟨#[]⟩, .string ⟨#[]⟩, .string ⟨#[]⟩, .string ⟨#[]⟩, .bool false, .int .i64 0, .string ⟨#[]⟩, .string ⟨#[]⟩] r3W (by kernel_rfl) rfl (all_oneCell_toArray (ptL.one { Dg.barePt p.kind p.id with parent := y.parent }))
  have r39 := setRow_heap W (w.heap.size + 1 + 1) _ #[.int .i64 p.kind, .string p.id, .string y.parent, .string ⟨#[]⟩, .string ⟨#[]⟩, .int .i64 0, .string ⟨#[]⟩, .string ⟨#[]⟩, .string ⟨#[]⟩, .string ⟨#[]⟩, .string ⟨#[]⟩, .bool false, .int .i64 0, .string ⟨#[]⟩, .string ⟨#[]⟩] _ _ r3W
  have hsz := HSZ.out
  have hBe := hide (below_setRow (HB8.out.trans (hB.mono HB8.out.size)) (show w.heap.size ≤ w.heap.size + 1 + 1 by omega) #[.int .i64 p.kind, .string p.id, .string y.parent, .string ⟨#[]⟩, .string ⟨#[]⟩, .int .i64 0, .string ⟨#[]⟩, .string ⟨#[]⟩, .string ⟨#[]⟩, .string ⟨#[]⟩, .string ⟨#[]⟩, .bool false, .int .i64 0, .string ⟨#[]⟩, .string ⟨#[]⟩])
  have hne : w.heap.size + 1 + 1 ≠ D := by omega
  have hK2 := (setRow_other W (w.heap.size + 1 + 1) D #[.int .i64 p.kind, .string p.id, .string y.parent, .string ⟨#[]⟩, .string ⟨#[]⟩, .int .i64 0, .string ⟨#[]⟩, .string ⟨#[]⟩, .string ⟨#[]⟩, .string ⟨#[]⟩, .string ⟨#[]⟩, .bool false, .int .i64 0, .string ⟨#[]⟩, .string ⟨#[]⟩] (by omega)).trans hK
  have HNE := hide hne
  have hL8 := hide (range_of (iNext r88 hB) 0 [.int .i64 p.kind, .string p.id, .string y.parent, .string ⟨#[]⟩, .string ⟨#[]⟩, .int .i64 0, .string ⟨#[]⟩, .string ⟨#[]⟩, .string ⟨#[]⟩, .string ⟨#[]⟩, .string ⟨#[]⟩, .bool false, .int .i64 0, .string ⟨#[]⟩, .string ⟨#[]⟩] rfl)
  clear r3W hne hsz hcB hst0
  gi_wp2_with (fail)
  go_wp2_with (with_reducible refine wpList_load_mid rfl 39 (.tmp 8) rfl b8 0 rfl _ _ hL8.out Try.underlying39 rfl (by kernel_rfl) ?_)
  clear hst9 hL8
  generalize W.setRow (w.heap.size + 1 + 1) #[.int .i64 p.kind, .string p.id, .string y.parent, .string ⟨#[]⟩, .string ⟨#[]⟩, .int .i64 0, .string ⟨#[]⟩, .string ⟨#[]⟩, .string ⟨#[]⟩, .string ⟨#[]⟩, .string ⟨#[]⟩, .bool false, .int .i64 0, .string ⟨#[]⟩, .string ⟨#[]⟩] = W6 at *
  refine ⟨by simp, .inl ⟨_, _, rfl, run_takeDeferred hK2, ?_⟩⟩
  have g0 := (World.putObj_heap_other (o := .deferred none) HNE.out).trans r39
  exact ⟨_, results_c8 Try.results10 _ _ (w.heap.size + 1 + 1) 39 #[.int .i64 p.kind, .string p.id, .string y.parent, .string ⟨#[]⟩, .string ⟨#[]⟩, .int .i64 0, .string ⟨#[]⟩, .string ⟨#[]⟩, .string ⟨#[]⟩, .string ⟨#[]⟩, .string ⟨#[]⟩, .bool false, .int .i64 0, .string ⟨#[]⟩, .string ⟨#[]⟩] (0, 0) _ rfl g0 Try.underlying39 (by kernel_rfl), rfl, hBe.out.trans (belowK_b (w := w8) HB8.out.size _ _ _ _ hD hK2 rfl rfl)⟩
 case stop =>
  rintro D c9 pre W hD ⟨k, hk, rfl⟩ ⟨rfl, ⟨q, u, h1, h2, h3, h4⟩, h6, h5⟩ hK
  have hst0 : True := trivial
  have hnil : R = u.2.id := by
   rw [← HNB.out]
   exact nb_some (l := l.take i) (by rw [HL8.out]; exact hk) h1 h2 h3
  subst hnil
  have r3W := (h6 (w.heap.size + 1 + 1) (lt_of_block hS8.r3) (by omega)).trans hS8.r3
  have hst9 := store_row (ty := 39) W (w.heap.size + 1 + 1) #[.int .i64 0, .string ⟨#[]⟩, .string ⟨#[]⟩, .string ⟨#[]⟩, .string ⟨#[]⟩, .int .i64 0, .string ⟨#[]⟩, .string ⟨#[]⟩, .string ⟨#[]⟩, .string ⟨#[]⟩, .string ⟨#[]⟩, .bool false, .int .i64 0, .string ⟨#[]⟩, .string ⟨#[]⟩] #[.int .i64 p.kind, .string p.id, .string y.parent, .string u.2.id, .string ⟨#[]⟩, .int .i64 0, .string ⟨#[]⟩, .string ⟨#[]⟩, .string ⟨#[]⟩, .string ⟨#[]⟩, .string ⟨#[]⟩, .bool false, .int .i64 0, .string ⟨#[]⟩, .string ⟨#[]⟩] r3W (by kernel_rfl) rfl (all_oneCell_toArray (ptL.one { Dg.barePt p.kind p.id with parent := y.parent, after := u.2.id }))
  have r39 := setRow_heap W (w.heap.size + 1 + 1) _ #[.int .i64 p.kind, .string p.id, .string y.parent, .string u.2.id, .string ⟨#[]⟩, .int .i64 0, .string ⟨#[]⟩, .string ⟨#[]⟩, .string ⟨#[]⟩, .string ⟨#[]⟩, .string ⟨#[]⟩, .bool false, .int .i64 0, .string ⟨#[]⟩, .string ⟨#[]⟩] _ _ r3W
  have hsz := HSZ.out
  have hBe := hide (below_setRow (h5) (show w.heap.size ≤ w.heap.size + 1 + 1 by omega) #[.int .i64 p.kind, .string p.id, .string y.parent, .string u.2.id, .string ⟨#[]⟩, .int .i64 0, .string ⟨#[]⟩, .string ⟨#[]⟩, .string ⟨#[]⟩, .string ⟨#[]⟩, .string ⟨#[]⟩, .bool false, .int .i64 0, .string ⟨#[]⟩, .string ⟨#[]⟩])
  have hne : w.heap.size + 1 + 1 ≠ D := by omega
  have hK2 := (setRow_other W (w.heap.size + 1 + 1) D #[.int .i64 p.kind, .string p.id, .string y.parent, .string u.2.id, .string ⟨#[]⟩, .int .i64 0, .string ⟨#[]⟩, .string ⟨#[]⟩, .string ⟨#[]⟩, .string ⟨#[]⟩, .string ⟨#[]⟩, .bool false, .int .i64 0, .string ⟨#[]⟩, .string ⟨#[]⟩] (by omega)).trans hK
  have HNE := hide hne
  have hL8 := hide (range_of (h4) 0 [.int .i64 p.kind, .string p.id, .string y.parent, .string u.2.id, .string ⟨#[]⟩, .int .i64 0, .string ⟨#[]⟩, .string ⟨#[]⟩, .string ⟨#[]⟩, .string ⟨#[]⟩, .string ⟨#[]⟩, .bool false, .int .i64 0, .string ⟨#[]⟩, .string ⟨#[]⟩] rfl)
  clear r3W hne hsz hcB hst0
  gi_wp2_with (fail)
  go_wp2_with (with_reducible refine wpList_load_mid rfl 39 (.tmp 8) rfl b8 0 rfl _ _ hL8.out Try.underlying39 rfl (by kernel_rfl) ?_)
  clear hst9 hL8
  generalize W.setRow (w.heap.size + 1 + 1) #[.int .i64 p.kind, .string p.id, .string y.parent, .string u.2.id, .string ⟨#[]⟩, .int .i64 0, .string ⟨#[]⟩, .string ⟨#[]⟩, .string ⟨#[]⟩, .string ⟨#[]⟩, .string ⟨#[]⟩, .bool false, .int .i64 0, .string ⟨#[]⟩, .string ⟨#[]⟩] = W6 at *
  refine ⟨by simp, .inl ⟨_, _, rfl, run_takeDeferred hK2, ?_⟩⟩
  have g0 := (World.putObj_heap_other (o := .deferred none) HNE.out).trans r39
  exact ⟨_, results_c8 Try.results10 _ _ (w.heap.size + 1 + 1) 39 #[.int .i64 p.kind, .string p.id, .string y.parent, .string u.2.id, .string ⟨#[]⟩, .int .i64 0, .string ⟨#[]⟩, .string ⟨#[]⟩, .string ⟨#[]⟩, .string ⟨#[]⟩, .string ⟨#[]⟩, .bool false, .int .i64 0, .string ⟨#[]⟩, .string ⟨#[]⟩] (0, 0) _ rfl g0 Try.underlying39 (by kernel_rfl), rfl, hBe.out.trans (belowK_b (w := w8) HB8.out.size _ _ _ _ hD hK2 rfl rfl)⟩
theorem invert_of (l : List Dg.It) (A : Option Addr) (n c : Nat) (hl : l.length = n) (hn : n ≤ 1048576) (hnc : n ≤ c) (p : Dg.Pt) (hp : PtW p) (h2 : p.kind ≠ 2) (l2 : List Dg.It) (ha : Dg.applyP l p = (l2, 0)) (x : Dg.Pt) (K : Int) (hx : Dg.invP l p = (x, K)) (w : World) (hI : Its w w.heap.size A l) :
  Calls Try.prog 10 #[.agg #[.slice A n c], .agg #[.int .i64 p.1, .string p.2, .string p.3, .string p.4, .string p.5, .int .i64 p.6.1, .string p.6.2, .string p.6.3, .string p.6.4, .string p.6.5, .string p.6.6, .bool p.6.7, .int .i64 p.7, .string p.8, .string p.9]] w fun e w' => e = .returned (.tuple #[.agg #[.int .i64 x.1, .string x.2, .string x.3, .string x.4, .string x.5, .int .i64 x.6.1, .string x.6.2, .string x.6.3, .string x.6.4, .string x.6.5, .string x.6.6, .bool x.6.7, .int .i64 x.7, .string x.8, .string x.9], .int .i64 K]) ∧ Below w.heap.size w w' := by
 have b (k : Int) (h : p.kind ≠ k) : (p.kind == k) = false := beq_eq_false_iff_ne.2 h
 have e (k : Int) (h : p.kind = k) : (p.kind == k) = true := beq_iff_eq.2 h
 have hok := Dg.ok_of_apply ha
 have hv := hok.valid
 unfold Dg.invP at hx
 rw [ha, if_neg (fun h => h rfl)] at hx
 by_cases h1 : p.kind = 1
 ·rw [if_pos h1] at hx
  injection hx with hx hk
  subst hx hk
  exact inv_ins l A n c hl hn hnc hv p hp h2 l2 ha (e 1 h1) w hI
 rw [if_neg h1] at hx
 obtain ⟨i, hi⟩ : ∃ i, Dg.idxI l p.id = some i := by
  cases hq : Dg.idxI l p.id with
  | some i => exact ⟨i, rfl⟩
  | none =>
   exfalso
   unfold Dg.applyP at ha
   rw [if_neg (fun h => by
    rcases h with h | h
    ·rw [hv] at h; cases h
    ·rw [hok.formed] at h; cases h), if_neg h1, hq] at ha
   injection ha with _ ha
   cases ha
 have hy : Dg.itemA l p.id = l.getD i Dg.zeroI := by unfold Dg.itemA; rw [hi]
 obtain ⟨y, hyd⟩ : ∃ y, l.getD i Dg.zeroI = y := ⟨_, rfl⟩
 rw [hi, hy, hyd] at hx
 injection hx with hx hk
 subst hk
 unfold Dg.backP at hx
 rcases Dg.formed_kind hok.formed with k | k | k | k | k | k
 ·exact absurd k h1
 ·rw [if_pos k] at hx
  subst hx
  refine (inv_num l A n c hl hn hnc hv p hp h2 l2 ha (b 1 h1) (b 2 h2) (e 3 k) i hi y hyd w hI).mono ?_
  rintro e1 w' ⟨he, hb⟩
  exact ⟨by rw [he, k]; rfl, hb⟩
 ·rw [if_neg (by omega), if_pos k] at hx
  subst hx
  refine (inv_move l A n c hl hn hnc hv p hp h2 l2 ha (b 1 h1) (b 2 h2) (b 3 (by omega)) (e 4 k) i hi y hyd _ rfl w hI).mono ?_
  rintro e1 w' ⟨he, hb⟩
  exact ⟨by rw [he, k]; rfl, hb⟩
 ·rw [if_neg (by omega), if_neg (by omega), if_pos k] at hx
  subst hx
  refine (inv_rep l A n c hl hn hnc hv p hp h2 l2 ha (b 1 h1) (b 2 h2) (b 3 (by omega)) (b 4 (by omega)) (e 5 k) i hi y hyd w hI).mono ?_
  rintro e1 w' ⟨he, hb⟩
  exact ⟨by rw [he]; rfl, hb⟩
 ·rw [if_neg (by omega), if_neg (by omega), if_neg (by omega), if_pos k] at hx
  subst hx
  refine (inv_rev l A n c hl hn hnc hv p hp h2 l2 ha (b 1 h1) (b 2 h2) (b 3 (by omega)) (b 4 (by omega)) (b 5 (by omega)) (e 6 k) i hi y hyd w hI).mono ?_
  rintro e1 w' ⟨he, hb⟩
  exact ⟨by rw [he]; rfl, hb⟩
 ·rw [if_neg (by omega), if_neg (by omega), if_neg (by omega), if_neg (by omega)] at hx
  subst hx
  refine (inv_text l A n c hl hn hnc hv p hp h2 l2 ha (b 1 h1) (b 2 h2) (b 3 (by omega)) (b 4 (by omega)) (b 5 (by omega)) (b 6 (by omega)) (e 7 k) i hi y hyd w hI).mono ?_
  rintro e1 w' ⟨he, hb⟩
  exact ⟨by rw [he, k]; rfl, hb⟩
end Go.Proofs.Ytgmimhgeigbpkaa
/- Sizes of a draft's patches; w21Patches of the law. No conditions but those that each theorem states. -/
namespace Go.Proofs.Ytgmimhgeigbpkaa
open Go Go.RowKit Go.Sort Go.Maps
theorem ins_w {x : Dg.It} (hx : ItW x) {a : ByteArray} (ha : a.size ≤ 9223372036854775807) : PtW (Dg.insP x a) := ⟨(kz 1 (by decide)).1, (kz 1 (by decide)).2, (kz 0 (by decide)).1, (kz 0 (by decide)).2, hx, hx.iz, hx.pz, ha, nz63⟩
theorem change_w {y x : Dg.It} {mv : Bool} {a : ByteArray} (hx : ItW x) (ha : a.size ≤ 9223372036854775807) {p : Dg.Pt} (h : p ∈ Dg.changeL y x mv a) : PtW p ∧ p.kind ≠ 2 := by
 unfold Dg.changeL at h
 rcases List.mem_append.1 h with h | h
 ·rw [Dg.opt_mem h]; exact ⟨bare_w 6 (by decide) hx, by simp [Dg.barePt]⟩
 rcases List.mem_append.1 h with h | h
 ·rw [Dg.opt_mem h]; exact ⟨go_w hx ha, by simp [Dg.goP, Dg.barePt]⟩
 rcases List.mem_append.1 h with h | h
 ·rw [Dg.opt_mem h]; exact ⟨num_w hx, by simp [Dg.numP, Dg.barePt]⟩
 rcases List.mem_append.1 h with h | h
 ·rw [Dg.opt_mem h]; exact ⟨text_w hx, by simp [Dg.textP, Dg.barePt]⟩
 rcases List.mem_append.1 h with h | h
 ·rw [Dg.opt_mem h]; exact ⟨bare_w 6 (by decide) hx, by simp [Dg.barePt]⟩
 ·rw [Dg.opt_mem h]; exact ⟨bare_w 5 (by decide) hx, by simp [Dg.barePt]⟩
theorem step_w {t s : List Dg.It} {i : Nat} (hv : Dg.validC t = true) : ∀ p ∈ Dg.stepL t s i, PtW p ∧ p.kind ≠ 2 := by
 unfold Dg.stepL
 cases hi : t[i]? with
 | none => exact fun p hp => absurd hp (by simp)
 | some x =>
  have hx := valid_itw hv x (List.mem_of_getElem? hi)
  have ha : (Dg.nbP t i x.parent).size ≤ 9223372036854775807 := Nat.le_trans (Dg.nb_size hv i x.parent) (by decide)
  simp only
  cases Dg.idxI s x.id with
  | none =>
   intro p hp
   rw [List.mem_singleton.1 hp]
   exact ⟨ins_w hx ha, by simp [Dg.insP, Dg.barePt]⟩
  | some k => exact fun p hp => change_w hx ha hp
/-- The patches of a draft are of a moderate size. -/
theorem draft_w {a t : List Dg.It} (h : Dg.DraftOk a t) : ∀ i, i ≤ t.length → ∀ p ∈ (Dg.draftS a t i).2, PtW p ∧ p.kind ≠ 2
 | 0, _ => fun p hp => absurd hp (by simp [Dg.draftS])
 | i + 1, hi => fun p hp => by
  obtain ⟨s', _, e⟩ := Dg.draft_round h (i := i) hi
  rw [e] at hp
  rcases List.mem_append.1 hp with hp | hp
  ·exact draft_w h i (by omega) p hp
  ·exact step_w h.vt p hp
/-- What takes a patch back is of a moderate size. -/
theorem inv_w {c d : List Dg.It} {p : Dg.Pt} (hp : PtW p) (h : Dg.applyP c p = (d, 0)) (hk : p.kind ≠ 1) : PtW (Dg.invP c p).1 := by
 have hv := (Dg.ok_of_apply h).valid
 have hy : ItW (Dg.itemA c p.id) := by
  unfold Dg.itemA
  cases hq : Dg.idxI c p.id with
  | none => exact zeroI_w
  | some i =>
   obtain ⟨hi, _⟩ := Dg.idxI_some hq
   refine valid_itw hv _ ?_
   show c.getD i Dg.zeroI ∈ c
   rw [List.getD_eq_getElem?_getD, List.getElem?_eq_getElem hi, Option.getD_some]
   exact List.getElem_mem hi
 unfold Dg.invP
 rw [h, if_neg (fun h => h rfl), if_neg hk]
 show PtW (Dg.backP p (Dg.itemA c p.id) _)
 have ha : (Dg.nbP c ((Dg.idxI c p.id).getD 0) (Dg.itemA c p.id).parent).size ≤ 9223372036854775807 := Nat.le_trans (Dg.nb_size hv _ _) (by decide)
 have hb (k : Int) (hk : 0 ≤ k ∧ k ≤ 7) : PtW (Dg.barePt k p.id) := ⟨(kz k hk).1, (kz k hk).2, (kz 0 (by decide)).1, (kz 0 (by decide)).2, zeroI_w, hp.iz, nz63, nz63, nz63⟩
 generalize Dg.itemA c p.id = y at *
 unfold Dg.backP
 split
 ·exact ⟨(kz 3 (by decide)).1, (kz 3 (by decide)).2, (kz 0 (by decide)).1, (kz 0 (by decide)).2, zeroI_w, hp.iz, nz63, nz63, hy.nz⟩
 split
 ·exact ⟨(kz 4 (by decide)).1, (kz 4 (by decide)).2, (kz 0 (by decide)).1, (kz 0 (by decide)).2, zeroI_w, hp.iz, hy.pz, ha, nz63⟩
 split
 ·exact hb 6 (by decide)
 split
 ·exact hb 5 (by decide)
 ·exact ⟨(kz 7 (by decide)).1, (kz 7 (by decide)).2, (kz 0 (by decide)).1, (kz 0 (by decide)).2, ⟨(kz 0 (by decide)).1, (kz 0 (by decide)).2, nz63, nz63, nz63, hy.oz, hy.sz⟩, hp.iz, nz63, nz63, nz63⟩
/-- The second code of the example: the first article repealed, one come in. -/
def p4 : Dg.It := ⟨2, ⟨#[112, 52]⟩, Dg.nil8, Dg.nil8, Dg.nil8, Dg.nil8, false⟩
def c21g : List Dg.It := [{ art21 ⟨#[112, 49]⟩ with gone := true }, art21 ⟨#[112, 50]⟩, art21 ⟨#[112, 51]⟩]
def t21 : List Dg.It := c21g ++ [p4]
set_option maxRecDepth 100000 in
theorem v21a : Dg.validC c21 = true := by decide +kernel
set_option maxRecDepth 100000 in
theorem v21b : Dg.validC t21 = true := by decide +kernel
set_option maxRecDepth 100000 in
theorem q21a : c21.any (p1K t21.reverse) = false := by decide +kernel
set_option maxRecDepth 100000 in
theorem q21b : c21.any (p2K t21.reverse) = false := by decide +kernel
theorem ok21 : Dg.DraftOk c21 t21 := draftOk_of v21a v21b q21a q21b
set_option maxRecDepth 100000 in
theorem len21 : (Dg.draftS c21 t21 t21.length).2.length = 2 := by decide +kernel
set_option maxRecDepth 100000 in
theorem comm21 : ∀ p ∈ (Dg.draftS c21 t21 t21.length).2, ∀ q ∈ (Dg.draftS c21 t21 t21.length).2, Dg.commP p q = true := by decide +kernel
end Go.Proofs.Ytgmimhgeigbpkaa
/- w21Patches of the law. No conditions but those that each theorem states. -/
namespace Go.Proofs.Ytgmimhgeigbpkaa
open Go Go.RowKit Go.Sort Go.Maps
set_option maxRecDepth 100000 in
set_option maxHeartbeats 16000000 in
attribute [-go_sem] Instr.storeAt in
theorem patches21_of (w : World) : Calls Try.prog 4 #[] w fun e w' => e = .returned (.bool true) ∧ Below w.heap.size w w' := by
 go_enter Try.func4, Try.ntmps4
 go_wp2_with (fail)
 refine (code21_of w).mono ?_
 rintro e w1 ⟨⟨v1, rfl, hO1⟩, hb1⟩
 go_wp2_with (fail)
 refine (code21_of w1).mono ?_
 rintro e w2 ⟨⟨v2, rfl, hO2⟩, hb2⟩
 have hO1' := hO1.below hb2
 obtain ⟨A1, c1, hv1, hr1, hc1⟩ := hO1'.row
 obtain ⟨bo, cp, sp, hv2, hbo, hbz, hrow, hcp, hcm, hsp⟩ := hO2.form (by decide)
 have hv1' : v1 = .slice A1 3 c1 := hv1
 have hv2' : v2 = .slice (some ⟨bo, 0, none⟩) 3 cp := hv2
 subst hv1' hv2'
 have hI1 := hr1.its
 have hb3 := bnext hb1 hb2
 have hw1 := own_where hO1
 clear hv1 hv2 hO1 hO1' hr1
 obtain ⟨rF, rT, hbn, hbs⟩ := iAlloc2 w2 (.cells #[.slice none 0 0] 24) (.cells #[.slice none 0 0] 24)
 have hstF := store_part (ty := 24) ((w2.alloc (.cells #[.slice none 0 0] 24)).alloc (.cells #[.slice none 0 0] 24)) w2.heap.size 0 #[.slice none 0 0] (.agg #[.slice A1 3 c1]) #[.slice A1 3 c1] rF infoCode1 (Nat.le_refl _) (one_code _ _ _) rfl
 have rF2 := setRow_heap _ w2.heap.size _ #[.slice A1 3 c1] _ _ rF
 have rT2 := (setRow_other ((w2.alloc (.cells #[.slice none 0 0] 24)).alloc (.cells #[.slice none 0 0] 24)) w2.heap.size (w2.heap.size + 1) #[.slice A1 3 c1] (by omega)).trans rT
 have hstT := store_part (ty := 24) _ (w2.heap.size + 1) 0 #[.slice none 0 0] (.agg #[.slice (some ⟨bo, 0, none⟩) 3 cp]) #[.slice (some ⟨bo, 0, none⟩) 3 cp] rT2 infoCode1 (Nat.le_refl _) (one_code _ _ _) rfl
 have rT3 := setRow_heap _ (w2.heap.size + 1) _ #[.slice (some ⟨bo, 0, none⟩) 3 cp] _ _ rT2
 have rF3 := (setRow_other _ (w2.heap.size + 1) w2.heap.size #[.slice (some ⟨bo, 0, none⟩) 3 cp] (by omega)).trans rF2
 have hb4 := below_setRow (below_setRow hbn (Nat.le_refl _) (g := w2.heap.size) #[.slice A1 3 c1]) (by omega) (g := w2.heap.size + 1) #[.slice (some ⟨bo, 0, none⟩) 3 cp]
 go_upto_region 2 with (fail)
 clear hstF hstT rF rT rF2 rT2 hbn hbs
 generalize (((w2.alloc (.cells #[.slice none 0 0] 24)).alloc (.cells #[.slice none 0 0] 24)).setRow w2.heap.size #[.slice A1 3 c1]).setRow (w2.heap.size + 1) #[.slice (some ⟨bo, 0, none⟩) 3 cp] = w3 at *
 have hI3 := hI1.below hb4
 have hrow3 := (hb4.block bo hbz).trans hrow
 have hst := store_part (ty := 4) w3 bo 6 (iLay.flat c21 ++ sp).toArray (.bool true) (iLay.flat c21g ++ sp).toArray hrow3 infoBool1 (by show 6 + 1 ≤ (iLay.flat c21 ++ sp).length; rw [List.length_append, iLay.flat_len]; show 7 ≤ 3 * 7 + sp.length; omega) (one_bool true) rfl
 have hrow4 := setRow_heap w3 bo _ (iLay.flat c21g ++ sp).toArray _ _ hrow3
 have rF4 := (setRow_other w3 bo w2.heap.size (iLay.flat c21g ++ sp).toArray (by omega)).trans rF3
 have rT4 := (setRow_other w3 bo (w2.heap.size + 1) (iLay.flat c21g ++ sp).toArray (by omega)).trans rT3
 have cT := iCells0 rT3
 have hb5 := below_setRow (hb3.trans (hb4.mono hb3.size)) (show w.heap.size ≤ bo from Nat.le_trans hb1.size hbo) (g := bo) (iLay.flat c21g ++ sp).toArray
 have hI4 := its_off hI3 (g := bo) (fun h0 ad had e => by
  have := (hw1 ad had).2
  omega) (iLay.flat c21g ++ sp).toArray
 go_upto_region 3 with (fail)
 clear hst cT hI3 hrow3 rF3 rT3 hI1
 have hO4 : Own1 iLay 37 (w3.setRow bo (iLay.flat c21g ++ sp).toArray) w1.heap.size (.slice (some ⟨bo, 0, none⟩) 3 cp) c21g := Own1.mk (L := iLay) (l := c21g) (sp := sp) hbo hrow4 hcm hcp hsp
 have hz4 : w2.heap.size + 1 < (w3.setRow bo (iLay.flat c21g ++ sp).toArray).heap.size := lt_of_block rT4
 generalize w3.setRow bo (iLay.flat c21g ++ sp).toArray = w4 at *
 have cT := iCells0 rT4
 have hbn := Below.news (Below.refl w4.heap.size w4) (.cells #[.int .i64 2, .string ⟨#[112, 52]⟩, .string ⟨#[]⟩, .string ⟨#[]⟩, .string ⟨#[]⟩, .string ⟨#[]⟩, .bool false] 37)
 have ho1 := hO4.below hbn
 have rb : Row1 iLay (w4.alloc (.cells #[.int .i64 2, .string ⟨#[112, 52]⟩, .string ⟨#[]⟩, .string ⟨#[]⟩, .string ⟨#[]⟩, .string ⟨#[]⟩, .bool false] 37)) (w4.heap.size + 1) (some ⟨w4.heap.size, 0, none⟩) [p4] := row_it w4 p4 37
 have hsz : w1.heap.size ≤ (w4.alloc (.cells #[.int .i64 2, .string ⟨#[112, 52]⟩, .string ⟨#[]⟩, .string ⟨#[]⟩, .string ⟨#[]⟩, .string ⟨#[]⟩, .bool false] 37)).heap.size := by rw [World.size_alloc]; omega
 have HBN := hide hbn
 clear hbn
 go_wp2_with (at_builtin; go_loud (refine step_app1 (L := iLay) rfl (.tmp 15) (.tmp 17) 22 37 _ 96 rfl Try.underlying22 iInfo rfl (by decide) w1.heap.size (w4.heap.size + 1) _ c21g [p4] rfl ho1 (some ⟨w4.heap.size, 0, none⟩) 1 1 rfl rfl rb (by decide) (by decide) hsz ?_))
 intro v3 w5 h1 h2 h3 h4
 have hk5 : ∀ k, k < w4.heap.size → k ≠ bo → w5.heap[k]? = w4.heap[k]? := fun k hk hne => (h3.block k (by have := HBN.out.size; omega) (fun e => hne (by injection e))).trans (HBN.out.block k hk)
 have hob : v3.ownBlock ≠ some (w2.heap.size + 1) := fun e => by
  rcases h4 with h4 | h4
  ·rw [h4] at e
   have e' : bo = w2.heap.size + 1 := by injection e
   omega
  ·rw [h4] at e
   have e' := Option.some.inj e
   have := HBN.out.size
   omega
 have rF5 := (hk5 w2.heap.size (by omega) (by omega)).trans rF4
 have rT5 := (hk5 (w2.heap.size + 1) hz4 (by omega)).trans rT4
 have hI5 := its_block (B' := w2.heap.size) (w' := w5) hI4 (Nat.le_refl _) (fun _ ad had => hk5 _ (by have := (hw1 ad had).2; have := hb2.size; omega) (by have := (hw1 ad had).2; omega))
 obtain ⟨A3, c3, hv3, _, hc3⟩ := h1.row
 have hv3' : v3 = .slice A3 4 c3 := hv3
 subst hv3'
 have hst := store_part (ty := 22) w5 (w2.heap.size + 1) 0 #[.slice (some ⟨bo, 0, none⟩) 3 cp] (.slice A3 4 c3) #[.slice A3 4 c3] rT5 (by kernel_rfl) (Nat.le_refl _) (one_sl _ _ _) rfl
 have rT6 := setRow_heap w5 (w2.heap.size + 1) _ #[.slice A3 4 c3] _ _ rT5
 have rF6 := (setRow_other w5 (w2.heap.size + 1) w2.heap.size #[.slice A3 4 c3] (by omega)).trans rF5
 have hI6 := its_other hI5 (g := w2.heap.size + 1) (by omega) #[.slice A3 4 c3]
 have hO6 := own_other h1 hob #[.slice A3 4 c3]
 have hb6 : Below w.heap.size w (w5.setRow (w2.heap.size + 1) #[.slice A3 4 c3]) := below_setRow ((hb5.trans (HBN.out.mono (by have := hb5.size; omega))).trans (h2.mono (by have := hb1.size; omega))) (by have := hb3.size; omega) _
 clear h1 h2 h3 h4 hk5 hob rF5 rT5 rF4 rT4 hI5 hI4 ho1 rb hsz cT hO4
 go_upto_region 4 with (fail)
 clear hst
 have htop6 := lt_of_block rT6
 generalize w5.setRow (w2.heap.size + 1) #[.slice A3 4 c3] = w6 at *
 obtain ⟨A3', c3', hv33, hr3, hc3'⟩ := hO6.row
 injection hv33 with e1 e2 e3
 clear e2
 subst e1 e3
 have hJ6 : Its w6 w6.heap.size A3 t21 := hr3.its
 have hIz := hI6.more (show w2.heap.size ≤ w6.heap.size by omega)
 have cF := iCells0 rF6
 have cT := iCells0 rT6
 have HC1 := hide (show 3 ≤ c1 from hc1)
 have HC3 := hide (show 4 ≤ c3 from hc3)
 clear hr3 hc3' hO6 hI6 hc1 hc3
 go_wp2_with (fail)
 refine (draft_of c21 t21 A1 A3 3 4 c1 c3 rfl rfl (by decide) (by decide) HC1.out HC3.out (by decide) (valid_itw v21a) (valid_itw v21b) v21a v21b w6 hIz hJ6).mono ?_
 rintro e w7 ⟨hd | hd | hd, hb7⟩
 ·rw [q21a] at hd; cases hd.1
 ·rw [q21b] at hd; cases hd.2.1
 obtain ⟨_, _, v7, rfl, hO7⟩ := hd
 obtain ⟨A7, c7, hv7, hr7, hc7⟩ := hO7.row
 have hv7' : v7 = .slice A7 2 c7 := by rw [hv7]; congr 1
 subst hv7'
 have rF7 := iNext rF6 hb7
 have rT7 := iNext rT6 hb7
 have hI7 := hIz.keep hb7
 have hJ7 := hJ6.keep hb7
 have hb67 := hb6.trans (hb7.mono hb6.size)
 have HC7 := hide (show 2 ≤ c7 from len21 ▸ hc7)
 clear hv7 hO7 hb7 rF6 rT6 cF cT hIz hJ6 hb6 hc7
 have cF := iCells0 rF7
 go_wp2_with (fail)
 refine (all_ok c21 A1 3 c1 rfl HC1.out v21a (Dg.draftS c21 t21 t21.length).2 A7 2 c7 len21 (by decide) (draft_w ok21 _ (Nat.le_refl _)) t21 (Dg.draft_all ok21).2.1 w7 hI7 hr7).mono ?_
 rintro e w8 ⟨v8, rfl, hO8, hb8⟩
 obtain ⟨A8, c8, hv8, hr8, hc8⟩ := hO8.row
 have hv8' : v8 = .slice A8 4 c8 := hv8
 subst hv8'
 have rT8 := iNext rT7 hb8
 have hR8 := hr7.keep hb8
 have hJ8 := hJ7.keep hb8
 have hb68 := hb67.trans (hb8.mono hb67.size)
 have hst := store_new (ty := 24) (T := 24) w8 #[.slice none 0 0] #[.slice A8 4 c8] infoCode1 rfl (by simp [Value.oneCell'])
 have hbn := Below.news (Below.refl w8.heap.size w8) (.cells #[.slice A8 4 c8] 24)
 have r59 := heap_alloc_new w8 (.cells #[.slice A8 4 c8] 24)
 have rT9 := iNext rT8 hbn
 have hR9 := hR8.keep hbn
 have hJ9 := hJ8.keep hbn
 have hK9 := hr8.its.keep hbn
 have hb69 := hb68.trans (hbn.mono hb68.size)
 clear hv8 hO8 hb8 rF7 rT7 hI7 hJ7 hb67 cF hr7 hr8 hc8 rT8 hR8 hJ8 hb68 hbn
 go_upto_region 6 with (fail)
 clear hst
 generalize w8.alloc (.cells #[.slice A8 4 c8] 24) = w9 at *
 go_wp2_with (fail)
 refine (groups_of (Dg.draftS c21 t21 t21.length).2 A7 2 c7 len21 (by decide) HC7.out (draft_w ok21 _ (Nat.le_refl _)) w9 hR9).mono ?_
 rintro e w10 ⟨⟨vo, hs, gs, S, rfl, hown, hat, hinv⟩, hb10⟩
 obtain ⟨AG, cg, hvo, _, _⟩ := hown.row
 have hg2 : gs.length = 2 := by
  have h9 := hinv
  rw [← len21] at h9
  rw [h9.all_free comm21]
  exact len21
 have hvo' : vo = .slice AG 2 cg := by rw [hvo, hat.1, hg2]
 subst hvo'
 have rT10 := iNext rT9 hb10
 have r510 := iNext r59 hb10
 have cT := iCells0 rT10
 have c5 := iCells0 r510
 have hJ10 := hJ9.keep hb10
 have hK10 := hK9.keep hb10
 have hb610 := hb69.trans (hb10.mono hb69.size)
 clear hvo hown hat hinv hg2 rT9 r59 hR9 hJ9 hK9 hb69 hb10 rT10 r510
 go_wp2_with (fail)
 refine (same18_of t21 t21 A8 A3 4 c8 4 c3 rfl rfl (by decide) (by decide) w10 hK10 hJ10 true (by simp)).mono ?_
 rintro e w11 ⟨rfl, hb11⟩
 clear cT c5
 go_wp2
 go_ret
 exact ⟨rfl, hb610.trans (hb11.mono hb610.size)⟩
end Go.Proofs.Ytgmimhgeigbpkaa
/- One round of TopDrafts' loop: what holds. No conditions but those that each theorem states. -/
namespace Go.Proofs.Ytgmimhgeigbpkaa
open Go Go.RowKit Go.Sort Go.Maps
/-- The variables of TopDrafts in its loop: both codes, the code so far, the patches, those that take back. -/
structure LwS (w : World) (bF b14 : Nat) (A : Option Addr) (n c : Nat) (a : List Dg.It) (B : Option Addr) (m d : Nat) (tt : List Dg.It) (AT : Option Addr) (T : List Dg.Pt) (Ac : Option Addr) (nc cc : Nat) (ck : List Dg.It) (Ab : Option Addr) (bk : List Dg.Pt) (X : World) : Prop where
 rF : X.heap[bF]? = some (.cells #[.slice A n c] 24 (0, 0))
 rT : X.heap[bF + 1]? = some (.cells #[.slice B m d] 24 (0, 0))
 rC : X.heap[b14]? = some (.cells #[.slice Ac nc cc] 24 (0, 0))
 itF : Its X w.heap.size A a
 itT : Its X w.heap.size B tt
 itC : Its X X.heap.size Ac ck
 neC : 0 < ck.length → ∀ ad, Ac = some ad → ad.block ≠ b14
 row : Row1 ptL X b14 AT T
 bak : Row1 ptL X X.heap.size Ab bk
 neB : 0 < bk.length → ∀ ad, Ab = some ad → ad.block ≠ b14
 lenC : ck.length = nc
 capC : nc ≤ cc
 up : Below w.heap.size w X
theorem LwS.below {w : World} {bF b14 : Nat} {A : Option Addr} {n c : Nat} {a : List Dg.It} {B : Option Addr} {m d : Nat} {tt : List Dg.It} {AT : Option Addr} {T : List Dg.Pt} {Ac : Option Addr} {nc cc : Nat} {ck : List Dg.It} {Ab : Option Addr} {bk : List Dg.Pt} {X Y : World} (h : LwS w bF b14 A n c a B m d tt AT T Ac nc cc ck Ab bk X) (hb : Below X.heap.size X Y) : LwS w bF b14 A n c a B m d tt AT T Ac nc cc ck Ab bk Y :=
 ⟨iNext h.rF hb, iNext h.rT hb, iNext h.rC hb, h.itF.below (hb.mono h.up.size), h.itT.below (hb.mono h.up.size), h.itC.keep hb, h.neC, h.row.below (hb.mono (Nat.le_of_lt (lt_of_block h.rC))), h.bak.keep hb, h.neB, h.lenC, h.capC, bnext h.up hb⟩
theorem row_other {α : Type} {L : Lay α} {w : World} {B : Nat} {A : Option Addr} {l : List α} (h : Row1 L w B A l) {g : Nat} (hg : 0 < l.length → ∀ ad, A = some ad → ad.block ≠ g) (cs : Array Value) : Row1 L (w.setRow g cs) B A l :=
 ⟨fun h0 => by
  obtain ⟨b, off, e, hlt, hc⟩ := h.at_ h0
  have hne : b ≠ g := hg h0 _ e
  exact ⟨b, off, e, hlt, fun j u hj => (World.cell?_of_block (a := ⟨b, off + j, none⟩) (setRow_other w g b cs hne)).trans (hc j u hj)⟩⟩
/-- The next code is laid in, and what takes back has grown. -/
theorem LwS.turn {w : World} {bF b14 : Nat} {A : Option Addr} {n c : Nat} {a : List Dg.It} {B : Option Addr} {m d : Nat} {tt : List Dg.It} {AT : Option Addr} {T : List Dg.Pt} {Ac : Option Addr} {nc cc : Nat} {ck : List Dg.It} {Ab : Option Addr} {bk : List Dg.Pt} {X : World} (h : LwS w bF b14 A n c a B m d tt AT T Ac nc cc ck Ab bk X) (hbF : w.heap.size ≤ bF) (hb14 : bF + 1 < b14)
  {A2 : Option Addr} {n2 c2 : Nat} {c9 : List Dg.It} (hI : Its X X.heap.size A2 c9) (hne : 0 < c9.length → ∀ ad, A2 = some ad → ad.block ≠ b14) (hl : c9.length = n2) (hc : n2 ≤ c2)
  {A3 : Option Addr} {b9 : List Dg.Pt} (hR : Row1 ptL X X.heap.size A3 b9) (hne3 : 0 < b9.length → ∀ ad, A3 = some ad → ad.block ≠ b14) : LwS w bF b14 A n c a B m d tt AT T A2 n2 c2 c9 A3 b9 (X.setRow b14 #[.slice A2 n2 c2]) := by
 refine ⟨(setRow_other X b14 bF _ (by omega)).trans h.rF, (setRow_other X b14 _ _ (by omega)).trans h.rT, setRow_heap X b14 _ _ _ _ h.rC, its_other h.itF (by omega) _, its_other h.itT (by omega) _, ?_, hne, ?_, ?_, hne3, hl, hc, below_setRow h.up (by omega) _⟩
 ·rw [size_setRow]
  exact its_off hI hne _
 ·exact row_other h.row (fun h0 ad had e => by
   obtain ⟨b, off, e2, hlt, _⟩ := h.row.at_ h0
   rw [had] at e2
   cases e2
   exact absurd e (Nat.ne_of_lt hlt)) _
 ·rw [size_setRow]
  exact row_other hR hne3 _
end Go.Proofs.Ytgmimhgeigbpkaa
/- The law TopDrafts. No conditions but those that each theorem states. -/
namespace Go.Proofs.Ytgmimhgeigbpkaa
open Go Go.RowKit Go.Sort Go.Maps
theorem fewC_8 {l : List Dg.It} (h : fewC l 8 = true) : l.length ≤ 8 := (fewC_spec h).1
theorem pick_mem {l : List Dg.Pt} {is : List Nat} {p : Dg.Pt} (h : p ∈ Dg.pickP l is) : p ∈ l := by
 unfold Dg.pickP at h
 obtain ⟨i, _, hi⟩ := List.mem_filterMap.1 h
 exact List.mem_of_getElem? hi
theorem draft_len {a t : List Dg.It} (h : Dg.DraftOk a t) : (Dg.draftS a t t.length).2.length ≤ 6 * t.length := (Dg.draft_at h t.length (Nat.le_refl _)).2.2.2
set_option maxRecDepth 100000 in
set_option maxHeartbeats 16000000 in
attribute [-go_sem] Instr.storeAt in
theorem law_drafts (a tt : List Dg.It) (A B : Option Addr) (n m c d : Nat) (hl : a.length = n) (hm : tt.length = m) (hn : n ≤ 9223372036854775807) (hmz : m ≤ 9223372036854775807) (hnc : n ≤ c) (hmd : m ≤ d) (hw : ∀ x ∈ a, ItW x) (hwt : ∀ x ∈ tt, ItW x) (os : List Int) (AO : Option Addr) (no co : Nat) (ho : os.length = no) (hno : no ≤ 9223372036854775807) (hos : ∀ x ∈ os, 0 ≤ x ∧ x ≤ 255) (w : World) (hI : Its w w.heap.size A a) (hJ : Its w w.heap.size B tt) (hO : Row1 uL w w.heap.size AO os) :
  Calls Try.prog 3 #[.agg #[.slice A n c], .agg #[.slice B m d], .slice AO no co] w fun e w' => e = .returned (.bool true) ∧ Below w.heap.size w w' := by
 obtain ⟨r3, r4, hb, hs⟩ := iAlloc2 w (.cells #[.slice A n c] 24) (.cells #[.slice B m d] 24)
 have hmx : Try.prog.follows .mixedOrders = true := by kernel_rfl
 have HI := hide hI; have HJ := hide hJ; have HL := hide hl; have HM := hide hm; have HW := hide hw; have HWT := hide hwt; have HO := hide hO; have HOL := hide ho; have HOS := hide hos
 clear hI hJ hl hm hw hwt hO ho hos
 go_enter Try.func3, Try.ntmps3
 go_wp2_with fail
 generalize (w.alloc (.cells #[.slice A n c] 24)).alloc (.cells #[.slice B m d] 24) = w1 at *
 obtain ⟨bF, hbF⟩ : ∃ bF, bF = w.heap.size := ⟨_, rfl⟩
 rw [← hbF] at r3 r4 ⊢
 have HBF := hide hbF
 clear hbF
 refine (patches21_of w1).mono ?_
 rintro e w2 ⟨rfl, hbq⟩
 have r32 := iNext r3 hbq
 have r42 := iNext r4 hbq
 have hb2 := bnext hb hbq
 clear hbq r3 r4 hb hs
 have c3 := iCells0 r32
 obtain ⟨F1, hF1⟩ : ∃ F, fewC a 8 = F := ⟨_, rfl⟩
 obtain ⟨F2, hF2⟩ : ∃ F, fewC tt 8 = F := ⟨_, rfl⟩
 have HF1 := hide hF1; have HF2 := hide hF2
 clear hF1 hF2
 go_wp2_with fail
 refine (rfew_of a A n c 8 HL.out hn (by decide) w2 ((HI.out.below hb2).more hb2.size) F1 HF1.out).mono ?_
 rintro e w3 ⟨rfl, hbq⟩
 have r33 := iNext r32 hbq
 have r43 := iNext r42 hbq
 have hb3 := bnext hb2 hbq
 clear hbq r32 r42 c3 hb2
 cases F1 with
 | false =>
  go_wp2
  go_ret
  exact ⟨rfl, hb3⟩
 | true =>
 have c4 := iCells0 r43
 go_wp2_with fail
 refine (rfew_of tt B m d 8 HM.out hmz (by decide) w3 ((HJ.out.below hb3).more hb3.size) F2 HF2.out).mono ?_
 rintro e w4 ⟨rfl, hbq⟩
 have r34 := iNext r33 hbq
 have r44 := iNext r43 hbq
 have hb4 := bnext hb3 hbq
 clear hbq r33 r43 c4 hb3
 cases F2 with
 | false =>
  go_wp2
  go_ret
  exact ⟨rfl, hb4⟩
 | true =>
 have hn8 : n ≤ 8 := by rw [← HL.out]; exact fewC_8 HF1.out
 have hm8 : m ≤ 8 := by rw [← HM.out]; exact fewC_8 HF2.out
 by_cases h30 : (30 : Int) < (no : Int)
 ·go_wp2
  go_ret
  exact ⟨rfl, hb4⟩
 have hn9 : n ≤ 1048576 := by omega
 have hm9 : m ≤ 1048576 := by omega
 have c3 := iCells0 r34
 have c4 := iCells0 r44
 go_wp2_with fail
 have hI4 := (HI.out.below hb4).more hb4.size
 have hJ4 := (HJ.out.below hb4).more hb4.size
 cases hv : (Dg.validC a && Dg.validC tt) with
 | false =>
  have HV := hide hv
  clear hv
  refine (draft_inv a tt A B n m c d HL.out HM.out hn9 hm9 HW.out HWT.out HV.out w4 hI4 hJ4).mono ?_
  rintro e w5 ⟨rfl, hb5⟩
  clear c3 c4 hI4 hJ4
  go_wp2
  go_ret
  exact ⟨rfl, bnext hb4 hb5⟩
 | true =>
 rw [Bool.and_eq_true] at hv
 obtain ⟨hva, hvt⟩ := hv
 have HVA := hide hva; have HVT := hide hvt
 clear hva hvt
 refine (draft_of a tt A B n m c d HL.out HM.out hn9 hm9 hnc hmd hm8 HW.out HWT.out HVA.out HVT.out w4 hI4 hJ4).mono ?_
 rintro e w5 ⟨hd | hd | hd, hb5⟩
 ·obtain ⟨_, rfl⟩ := hd
  clear c3 c4 hI4 hJ4
  go_wp2
  go_ret
  exact ⟨rfl, bnext hb4 hb5⟩
 ·obtain ⟨_, _, rfl⟩ := hd
  clear c3 c4 hI4 hJ4
  go_wp2
  go_ret
  exact ⟨rfl, bnext hb4 hb5⟩
 obtain ⟨hq1, hq2, v5, rfl, hO5⟩ := hd
 have HOK := hide (draftOk_of HVA.out HVT.out hq1 hq2)
 obtain ⟨L, hL⟩ : ∃ L, (Dg.draftS a tt tt.length).2 = L := ⟨_, rfl⟩
 rw [hL] at hO5
 obtain ⟨A5, c5, hv5, hr5, hc5⟩ := hO5.row
 obtain ⟨nL, hnL⟩ : ∃ nL, L.length = nL := ⟨_, rfl⟩
 rw [hnL] at hv5 hc5
 subst hv5
 have hnL8 : nL ≤ 48 := by
  have := draft_len HOK.out
  rw [hL, hnL, HM.out] at this
  omega
 have hw5 : ∀ p ∈ L, PtW p ∧ p.kind ≠ 2 := by rw [← hL]; exact draft_w HOK.out _ (Nat.le_refl _)
 have HLL := hide hL; have HNL := hide hnL; have HW5 := hide hw5; have HC5 := hide hc5
 have r35 := iNext r34 hb5
 have r45 := iNext r44 hb5
 have hbb5 := bnext hb4 hb5
 have HR5 := hide hr5
 clear hL hnL hw5 hO5 hr5 hc5 hq1 hq2 r34 r44 hb4 c3 c4 hI4 hJ4 hb5
 go_wp2_with fail
 refine (ordered_of L A5 nL c5 HNL.out (by omega) HC5.out HW5.out os AO no co HOL.out (by omega) HOS.out w5 HR5.out ((row_blocks HO.out (w' := w5) fun b hb => hbb5.block b hb).more hbb5.size)).mono ?_
 rintro e w6 ⟨⟨v6, gs, gs', S, rfl, hinv, hp, hO6⟩, hb6⟩
 have hgo : Dg.GrpOk L gs := by
  have h9 := hinv
  rw [← HNL.out] at h9
  exact h9.done
 obtain ⟨hT1, hT2, _⟩ := Dg.draft_turned HOK.out (by have := HM.out; omega) (by rw [HLL.out]; exact hgo) hp
 rw [HLL.out] at hT1 hT2
 have hTW : ∀ p ∈ Dg.pickP L gs'.flatten, PtW p ∧ p.kind ≠ 2 := fun p hp => HW5.out p (pick_mem hp)
 generalize Dg.pickP L gs'.flatten = T at *
 rw [HNL.out] at hT2
 obtain ⟨A6, c6, hv6, hr6, hc6⟩ := hO6.row
 rw [hT2] at hv6 hc6
 subst hv6
 have HT1 := hide hT1; have HT2 := hide hT2; have HTW := hide hTW; have HR6 := hide hr6
 have r36 := iNext r35 hb6
 have r46 := iNext r45 hb6
 have hbb6 := bnext hbb5 hb6
 clear hT1 hT2 hTW hinv hp hO6 hgo hr6 hc6 r35 r45 hbb5 hb6
 have c3 := iCells0 r36
 go_wp2_with fail
 refine (all_ok a A n c HL.out hnc HVA.out T A6 nL c6 HT2.out (by omega) HTW.out tt HT1.out w6 ((HI.out.below hbb6).more hbb6.size) HR6.out).mono ?_
 rintro e w7 ⟨v7, rfl, hO7, hb7⟩
 obtain ⟨A7, c7, hv7, hr7, _⟩ := hO7.row
 rw [HM.out] at hv7
 subst hv7
 have hst := store_new (ty := 24) (T := 24) w7 #[.slice none 0 0] #[.slice A7 m c7] infoCode1 rfl (by simp [Value.oneCell'])
 have hbn := Below.news (Below.refl w7.heap.size w7) (.cells #[.slice A7 m c7] 24)
 have r11 := heap_alloc_new w7 (.cells #[.slice A7 m c7] 24)
 have r38 := iNext (iNext r36 hb7) hbn
 have r48 := iNext (iNext r46 hb7) hbn
 have hI7 := hr7.its.keep hbn
 have HR8 := hide ((HR6.out.keep hb7).keep hbn)
 have hbb8 := bnext (bnext hbb6 hb7) hbn
 clear hO7 hr7 hbn hb7 r36 r46 c3 hbb6 HR6
 go_upto_region 9 with fail
 clear hst
 generalize w7.alloc (.cells #[.slice A7 m c7] 24) = w8 at *
 have c11 := iCells0 r11
 have c4 := iCells0 r48
 have hJ8 := (HJ.out.below hbb8).more hbb8.size
 go_wp2_with fail
 refine (same18_of tt tt A7 B m c7 m d HM.out HM.out hmz hmz w8 hI7 hJ8 true (by simp)).mono ?_
 rintro e w9 ⟨rfl, hb9⟩
 have r39 := iNext r38 hb9
 have r49 := iNext r48 hb9
 have HR9 := hide (HR8.out.keep hb9)
 have hbb9 := bnext hbb8 hb9
 clear c11 c4 hI7 hJ8 r11 r38 r48 HR8 hbb8 hb9
 have c3 := iCells0 r39
 have hst := store_new (ty := 24) (T := 24) w9 #[.slice none 0 0] #[.slice A n c] infoCode1 rfl (by simp [Value.oneCell'])
 go_upto_region 12 with fail
 clear hst c3
 have hbn := Below.news (Below.refl w9.heap.size w9) (.cells #[.slice A n c] 24)
 have r14 := heap_alloc_new w9 (.cells #[.slice A n c] 24)
 have r310 := iNext r39 hbn
 have r410 := iNext r49 hbn
 have HR10 := hide (HR9.out.below hbn)
 have hbb10 := bnext hbb9 hbn
 have h914 := lt_of_block r49
 have hbFw : w.heap.size ≤ bF := by have := HBF.out; omega
 clear hbn r39 r49 HR9
 obtain ⟨b14, hb14⟩ : ∃ b14, b14 = w9.heap.size := ⟨_, rfl⟩
 rw [← hb14] at r14 HR10 h914 ⊢
 clear hb14
 have hbb9s := hbb9.size
 generalize w9.alloc (.cells #[.slice A n c] 24) = w10 at *
 have HS0 := hide (show LwS w bF b14 A n c a B m d tt A6 T A n c a none [] w10 from ⟨r310, r410, r14, HI.out.below hbb10, HJ.out.below hbb10, (HI.out.below hbb10).more hbb10.size, fun h0 ad had e => by
  obtain ⟨b, off, e2, hlt, _⟩ := HI.out.at_ h0
  rw [had] at e2
  cases e2
  have e' : b = b14 := e
  omega, HR10.out, Row1.nil _ _ _ _, fun h0 => by simp at h0, HL.out, hnc, hbb10⟩)
 clear r310 r410 r14 HR10 hbb10 hbb9
 go_wp2_with fail
 go_loopw [15, 16] (fun vb iv wr => ∃ (i : Nat) (Ac : Option Addr) (nc cc : Nat) (ck : List Dg.It) (Ab : Option Addr) (cb : Nat) (bk : List Dg.Pt), i ≤ nL ∧ iv = .int .i64 i ∧ vb = .slice Ab i cb ∧ Hid (LwS w bF b14 A n c a B m d tt A6 T Ac nc cc ck Ab bk wr) ∧ Hid (Dg.runT Dg.oneP ck (T.drop i) = some tt) ∧ Hid (Dg.runT Dg.oneP ck bk = some a) ∧ Hid (∀ p ∈ bk, PtW p ∧ p.kind ≠ 2) ∧ Hid (bk.length = i)) (fun _ iv _ => nL - (intOf iv).toNat)
 case atStart => exact ⟨0, A, n, c, a, none, 0, [], Nat.zero_le _, rfl, rfl, HS0, by rw [List.drop_zero]; exact HT1, hide rfl, hide (fun p hp => absurd hp (by simp)), hide rfl⟩
 case round =>
  clear HS0
  obtain ⟨i, Ac, nc, cc, ck, Ab, cb, bk, hi, rfl, rfl, HS, HT, HBK, HBW, HBL⟩ := hrel
  by_cases hlt : i < nL
  ·have hil : i < T.length := by rw [HT2.out]; exact hlt
   obtain ⟨p, hp⟩ : ∃ p, T[i] = p := ⟨_, rfl⟩
   obtain ⟨bp, op, hA6⟩ := HS.out.row.someP (by omega)
   subst hA6
   obtain ⟨hpw, hp2⟩ := HTW.out p (by rw [← hp]; exact List.getElem_mem hil)
   have hrun := HT.out
   rw [List.drop_eq_getElem_cons hil, hp, Dg.runT] at hrun
   cases ho : Dg.oneP ck p with
   | none => rw [ho] at hrun; cases hrun
   | some c9 =>
   rw [ho] at hrun
   have hap := Dg.oneP_iff.1 ho
   have HRun := hide (show Dg.runT Dg.oneP c9 (T.drop (i + 1)) = some tt from hrun)
   obtain ⟨x, K, hx⟩ : ∃ x K, Dg.invP ck p = (x, K) := ⟨_, _, rfl⟩
   have hck := valid_len (Dg.ok_of_apply hap).valid
   have HPW := hide hpw; have HP2 := hide hp2; have HAP := hide hap; have HX := hide hx
   have HRP := hide (fun (X : World) (hX : Below wr.heap.size wr X) => row_range (HS.out.below hX).row hil p hp)
   have HSK := hide (fun (X : World) (hX : Below wr.heap.size wr X) => HS.out.below hX)
   have HIN := hide (fun (X : World) (h : LwS w bF b14 A n c a B m d tt (some ⟨bp, op, none⟩) T Ac nc cc ck Ab bk X) => invert_of ck Ac nc cc h.lenC (by have := h.lenC; omega) h.capC p HPW.out HP2.out c9 HAP.out x K HX.out X h.itC)
   have HAY := hide (fun (X : World) (h : LwS w bF b14 A n c a B m d tt (some ⟨bp, op, none⟩) T Ac nc cc ck Ab bk X) => (by have h9 := apply_of ck Ac nc cc h.lenC (by have := h.lenC; omega) h.capC (valid_itw (Dg.ok_of_apply HAP.out).valid) p HPW.out HP2.out X h.itC; rw [HAP.out] at h9; exact h9 : Calls Try.prog 11 #[.agg #[.slice Ac nc cc], .agg #[.int .i64 p.1, .string p.2, .string p.3, .string p.4, .string p.5, .int .i64 p.6.1, .string p.6.2, .string p.6.3, .string p.6.4, .string p.6.5, .string p.6.6, .bool p.6.7, .int .i64 p.7, .string p.8, .string p.9]] X (ApR (c9, 0) X)))
   clear hpw hp2 hrun ho hap hx hck hil hp HT
   have i0 : (0 : Int) ≤ (i : Int) := by omega
   have i1 : (i : Int) < (nL : Int) := by omega
   go_upto_region 16 with fail
   go_cut [17, 18] from 85 to 93 (fun v17 v18 wx => v18 = .int .i64 K ∧ ∃ b17, v17 = .pointer (some ⟨b17, 0, none⟩) ∧ wr.heap.size ≤ b17 ∧ wx.heap[b17]? = some (.cells #[.int .i64 x.1, .string x.2, .string x.3, .string x.4, .string x.5, .int .i64 x.6.1, .string x.6.2, .string x.6.3, .string x.6.4, .string x.6.5, .string x.6.6, .bool x.6.7, .int .i64 x.7, .string x.8, .string x.9] 39 (0, 0)) ∧ Below wr.heap.size wr wx)
   case first =>
    refine wp_region_noPanic ?_
    refine wp_region_L (Below wr.heap.size wr) 12 hmx ?_
    have hH0 : (Below wr.heap.size wr) wr.drew := (Below.refl wr.heap.size wr).drew
    generalize wr.drew = u0 at *
    refine tkY 0 14 ?_ rfl ?_ hH0 ?_
    rotate_left
    ·intro wS hS; have c0 : wS.cell? ⟨b14, 0, none⟩ = some (.slice Ac nc cc) := iCells0 (HSK.out _ hS).rC; go_simp; (try with_reducible rfl)
    simp only [Act.put, pu1, pu2, pu3, pu4, pu5, pu6]
    refine tkY 1 14 ?_ rfl ?_ hH0 ?_
    rotate_left
    ·intro wS hS; go_simp; (try with_reducible rfl)
    simp only [Act.put, pu1, pu2, pu3, pu4, pu5, pu6]
    refine tkY 2 14 ?_ rfl ?_ hH0 ?_
    rotate_left
    ·intro wS hS; go_simp; (try with_reducible rfl)
    simp only [Act.put, pu1, pu2, pu3, pu4, pu5, pu6]
    refine tkY 3 14 ?_ rfl ?_ hH0 ?_
    rotate_left
    ·intro wS hS; go_simp; (try with_reducible rfl)
    simp only [Act.put, pu1, pu2, pu3, pu4, pu5, pu6]
    refine tkV 4 14 (.agg #[.int .i64 p.1, .string p.2, .string p.3, .string p.4, .string p.5, .int .i64 p.6.1, .string p.6.2, .string p.6.3, .string p.6.4, .string p.6.5, .string p.6.6, .bool p.6.7, .int .i64 p.7, .string p.8, .string p.9]) rfl (by exact yieldsIf_load_mid (by rfl) 39 (.tmp 89) rfl bp (op + i * 15) rfl [.int .i64 p.1, .string p.2, .string p.3, .string p.4, .string p.5, .int .i64 p.6.1, .string p.6.2, .string p.6.3, .string p.6.4, .string p.6.5, .string p.6.6, .bool p.6.7, .int .i64 p.7, .string p.8, .string p.9] _ (fun X hX => HRP.out X hX) Try.underlying39 rfl (by kernel_rfl)) hH0 ?_
    simp only [Act.put, pu1, pu2, pu3, pu4, pu5, pu6]
    refine wpAnyL_duo (i := 5) (j := 9) (by decide +kernel) (by rfl) (by rfl) (fun K hK => ?_) (fun K hK => ?_)
    ·rw [if_pos (by rfl)]
     go_simp
     refine (HIN.out u0 (HSK.out _ hH0)).mono ?_
     rintro e u1 ⟨rfl, hx1⟩
     have hH1 := hH0.trans (hx1.mono hH0.size)
     refine hK.out _ _ (Or.inr hH1) ?_
     clear hK K hx1
     try simp only [Act.put, pu1, pu2, pu3, pu4, pu5, pu6]
     refine tkY 6 14 ?_ rfl ?_ hH1 ?_
     rotate_left
     ·intro wS hS; go_simp; (try with_reducible rfl)
     simp only [Act.put, pu1, pu2, pu3, pu4, pu5, pu6]
     refine tkY 7 14 ?_ rfl ?_ hH1 ?_
     rotate_left
     ·intro wS hS; go_simp; (try with_reducible rfl)
     simp only [Act.put, pu1, pu2, pu3, pu4, pu5, pu6]
     refine tkY 8 14 ?_ rfl ?_ hH1 ?_
     rotate_left
     ·intro wS hS; go_simp; (try with_reducible rfl)
     simp only [Act.put, pu1, pu2, pu3, pu4, pu5, pu6]
     refine onY 9 (by rfl) fun K hK => ?_
     go_simp
     have hx2 := Below.news (Below.refl u1.heap.size u1) (.cells #[.int .i64 0, .string ⟨#[]⟩, .string ⟨#[]⟩, .string ⟨#[]⟩, .string ⟨#[]⟩, .int .i64 0, .string ⟨#[]⟩, .string ⟨#[]⟩, .string ⟨#[]⟩, .string ⟨#[]⟩, .string ⟨#[]⟩, .bool false, .int .i64 0, .string ⟨#[]⟩, .string ⟨#[]⟩] 39)
     have hr2 := heap_alloc_new u1 (.cells #[.int .i64 0, .string ⟨#[]⟩, .string ⟨#[]⟩, .string ⟨#[]⟩, .string ⟨#[]⟩, .int .i64 0, .string ⟨#[]⟩, .string ⟨#[]⟩, .string ⟨#[]⟩, .string ⟨#[]⟩, .string ⟨#[]⟩, .bool false, .int .i64 0, .string ⟨#[]⟩, .string ⟨#[]⟩] 39)
     have hg2 : wr.heap.size ≤ u1.heap.size := hH1.size
     have hH2 := hH1.trans (hx2.mono hH1.size)
     refine hK.out _ _ (Or.inr hH2) ?_
     clear hK K hx2
     generalize u1.alloc (.cells #[.int .i64 0, .string ⟨#[]⟩, .string ⟨#[]⟩, .string ⟨#[]⟩, .string ⟨#[]⟩, .int .i64 0, .string ⟨#[]⟩, .string ⟨#[]⟩, .string ⟨#[]⟩, .string ⟨#[]⟩, .string ⟨#[]⟩, .bool false, .int .i64 0, .string ⟨#[]⟩, .string ⟨#[]⟩] 39) = u2 at *
     generalize u1.heap.size = g2 at *
     try simp only [Act.put, pu1, pu2, pu3, pu4, pu5, pu6]
     refine onY 10 (by rfl) fun K hK => ?_
     have hst := store_row (ty := 39) u2 g2 #[.int .i64 0, .string ⟨#[]⟩, .string ⟨#[]⟩, .string ⟨#[]⟩, .string ⟨#[]⟩, .int .i64 0, .string ⟨#[]⟩, .string ⟨#[]⟩, .string ⟨#[]⟩, .string ⟨#[]⟩, .string ⟨#[]⟩, .bool false, .int .i64 0, .string ⟨#[]⟩, .string ⟨#[]⟩] #[.int .i64 x.1, .string x.2, .string x.3, .string x.4, .string x.5, .int .i64 x.6.1, .string x.6.2, .string x.6.3, .string x.6.4, .string x.6.5, .string x.6.6, .bool x.6.7, .int .i64 x.7, .string x.8, .string x.9] hr2 (by kernel_rfl) rfl (all_oneCell_toArray (ptL.one x))
     go_simp
     clear hst
     have hr3 := setRow_heap u2 g2 _ #[.int .i64 x.1, .string x.2, .string x.3, .string x.4, .string x.5, .int .i64 x.6.1, .string x.6.2, .string x.6.3, .string x.6.4, .string x.6.5, .string x.6.6, .bool x.6.7, .int .i64 x.7, .string x.8, .string x.9] _ _ hr2
     have hH3 := below_setRow hH2 hg2 (g := g2) #[.int .i64 x.1, .string x.2, .string x.3, .string x.4, .string x.5, .int .i64 x.6.1, .string x.6.2, .string x.6.3, .string x.6.4, .string x.6.5, .string x.6.6, .bool x.6.7, .int .i64 x.7, .string x.8, .string x.9]
     refine hK.out _ _ (Or.inr hH3) ?_
     clear hK K 
     try simp only [Act.put, pu1, pu2, pu3, pu4, pu5, pu6]
     refine onY 11 (by rfl) fun K hK => ?_
     go_simp
     refine hK.out _ _ (Or.inr hH3) ?_
     clear hK K 
     try simp only [Act.put, pu1, pu2, pu3, pu4, pu5, pu6]
     refine dnY ?_
     go_wp2_with fail
     go_meet
     case rel => exact ⟨rfl, g2, rfl, hg2, hr3, hH3⟩
    ·rw [if_pos (by rfl)]
     go_simp
     have hx2 := Below.news (Below.refl u0.heap.size u0) (.cells #[.int .i64 0, .string ⟨#[]⟩, .string ⟨#[]⟩, .string ⟨#[]⟩, .string ⟨#[]⟩, .int .i64 0, .string ⟨#[]⟩, .string ⟨#[]⟩, .string ⟨#[]⟩, .string ⟨#[]⟩, .string ⟨#[]⟩, .bool false, .int .i64 0, .string ⟨#[]⟩, .string ⟨#[]⟩] 39)
     have hr1 := heap_alloc_new u0 (.cells #[.int .i64 0, .string ⟨#[]⟩, .string ⟨#[]⟩, .string ⟨#[]⟩, .string ⟨#[]⟩, .int .i64 0, .string ⟨#[]⟩, .string ⟨#[]⟩, .string ⟨#[]⟩, .string ⟨#[]⟩, .string ⟨#[]⟩, .bool false, .int .i64 0, .string ⟨#[]⟩, .string ⟨#[]⟩] 39)
     have hg2 : wr.heap.size ≤ u0.heap.size := hH0.size
     have hH1 := hH0.trans (hx2.mono hH0.size)
     refine hK.out _ _ (Or.inr hH1) ?_
     clear hK K hx2
     generalize u0.alloc (.cells #[.int .i64 0, .string ⟨#[]⟩, .string ⟨#[]⟩, .string ⟨#[]⟩, .string ⟨#[]⟩, .int .i64 0, .string ⟨#[]⟩, .string ⟨#[]⟩, .string ⟨#[]⟩, .string ⟨#[]⟩, .string ⟨#[]⟩, .bool false, .int .i64 0, .string ⟨#[]⟩, .string ⟨#[]⟩] 39) = u1 at *
     generalize u0.heap.size = g2 at *
     try simp only [Act.put, pu1, pu2, pu3, pu4, pu5, pu6]
     refine onY 5 (by rfl) fun K hK => ?_
     have hg1 := lt_of_block hr1
     go_simp
     refine (HIN.out u1 (HSK.out _ hH1)).mono ?_
     rintro e u2 ⟨rfl, hx1⟩
     have hH2 := hH1.trans (hx1.mono hH1.size)
     have hr2 := iNext hr1 hx1
     refine hK.out _ _ (Or.inr hH2) ?_
     clear hK K hx1
     try simp only [Act.put, pu1, pu2, pu3, pu4, pu5, pu6]
     refine tkY 6 14 ?_ rfl ?_ hH2 ?_
     rotate_left
     ·intro wS hS; go_simp; (try with_reducible rfl)
     simp only [Act.put, pu1, pu2, pu3, pu4, pu5, pu6]
     refine tkY 7 14 ?_ rfl ?_ hH2 ?_
     rotate_left
     ·intro wS hS; go_simp; (try with_reducible rfl)
     simp only [Act.put, pu1, pu2, pu3, pu4, pu5, pu6]
     refine tkY 8 14 ?_ rfl ?_ hH2 ?_
     rotate_left
     ·intro wS hS; go_simp; (try with_reducible rfl)
     simp only [Act.put, pu1, pu2, pu3, pu4, pu5, pu6]
     refine onY 10 (by rfl) fun K hK => ?_
     have hst := store_row (ty := 39) u2 g2 #[.int .i64 0, .string ⟨#[]⟩, .string ⟨#[]⟩, .string ⟨#[]⟩, .string ⟨#[]⟩, .int .i64 0, .string ⟨#[]⟩, .string ⟨#[]⟩, .string ⟨#[]⟩, .string ⟨#[]⟩, .string ⟨#[]⟩, .bool false, .int .i64 0, .string ⟨#[]⟩, .string ⟨#[]⟩] #[.int .i64 x.1, .string x.2, .string x.3, .string x.4, .string x.5, .int .i64 x.6.1, .string x.6.2, .string x.6.3, .string x.6.4, .string x.6.5, .string x.6.6, .bool x.6.7, .int .i64 x.7, .string x.8, .string x.9] hr2 (by kernel_rfl) rfl (all_oneCell_toArray (ptL.one x))
     go_simp
     clear hst
     have hr3 := setRow_heap u2 g2 _ #[.int .i64 x.1, .string x.2, .string x.3, .string x.4, .string x.5, .int .i64 x.6.1, .string x.6.2, .string x.6.3, .string x.6.4, .string x.6.5, .string x.6.6, .bool x.6.7, .int .i64 x.7, .string x.8, .string x.9] _ _ hr2
     have hH3 := below_setRow hH2 hg2 (g := g2) #[.int .i64 x.1, .string x.2, .string x.3, .string x.4, .string x.5, .int .i64 x.6.1, .string x.6.2, .string x.6.3, .string x.6.4, .string x.6.5, .string x.6.6, .bool x.6.7, .int .i64 x.7, .string x.8, .string x.9]
     refine hK.out _ _ (Or.inr hH3) ?_
     clear hK K 
     try simp only [Act.put, pu1, pu2, pu3, pu4, pu5, pu6]
     refine onY 11 (by rfl) fun K hK => ?_
     go_simp
     refine hK.out _ _ (Or.inr hH3) ?_
     clear hK K 
     try simp only [Act.put, pu1, pu2, pu3, pu4, pu5, pu6]
     refine dnY ?_
     go_wp2_with fail
     go_meet
     case rel => exact ⟨rfl, g2, rfl, hg2, hr3, hH3⟩
   case rest =>
    obtain ⟨rfl, b17, rfl, hb17, r17, hbq⟩ := hcut
    rename World => wq
    have HS17 := hide (HSK.out _ hbq)
    have HRQ := hide (fun (X : World) (hX : Below wq.heap.size wq X) => HRP.out X (bnext hbq hX))
    have HBQ := hide hbq
    clear HSK HRP hbq HIN
    have HSK := hide (fun (X : World) (hX : Below wq.heap.size wq X) => HS17.out.below hX)
    have HRP := HRQ
    clear HRQ
    have H17 := hide r17
    clear r17
    go_upto_region 17 with fail
    go_cut [19, 20] from 94 to 102 (fun v19 v20 wx => v20 = .int .i64 0 ∧ ∃ b19 A' n' c', v19 = .pointer (some ⟨b19, 0, none⟩) ∧ c9.length = n' ∧ n' ≤ c' ∧ wq.heap.size ≤ b19 ∧ wx.heap[b19]? = some (.cells #[.slice A' n' c'] 24 (0, 0)) ∧ Below wq.heap.size wq wx ∧ Own1 iLay 37 wx wq.heap.size (.slice A' n' c') c9)
    case first =>
     refine wp_region_noPanic ?_
     refine wp_region_L (Below wq.heap.size wq) 12 hmx ?_
     have hH0 : (Below wq.heap.size wq) wq.drew := (Below.refl wq.heap.size wq).drew
     generalize wq.drew = u0 at *
     refine tkY 0 14 ?_ rfl ?_ hH0 ?_
     rotate_left
     ·intro wS hS; have c0 : wS.cell? ⟨b14, 0, none⟩ = some (.slice Ac nc cc) := iCells0 (HSK.out _ hS).rC; go_simp; (try with_reducible rfl)
     simp only [Act.put, pu1, pu2, pu3, pu4, pu5, pu6]
     refine tkY 1 14 ?_ rfl ?_ hH0 ?_
     rotate_left
     ·intro wS hS; go_simp; (try with_reducible rfl)
     simp only [Act.put, pu1, pu2, pu3, pu4, pu5, pu6]
     refine tkY 2 14 ?_ rfl ?_ hH0 ?_
     rotate_left
     ·intro wS hS; go_simp; (try with_reducible rfl)
     simp only [Act.put, pu1, pu2, pu3, pu4, pu5, pu6]
     refine tkY 3 14 ?_ rfl ?_ hH0 ?_
     rotate_left
     ·intro wS hS; go_simp; (try with_reducible rfl)
     simp only [Act.put, pu1, pu2, pu3, pu4, pu5, pu6]
     refine tkV 4 14 (.agg #[.int .i64 p.1, .string p.2, .string p.3, .string p.4, .string p.5, .int .i64 p.6.1, .string p.6.2, .string p.6.3, .string p.6.4, .string p.6.5, .string p.6.6, .bool p.6.7, .int .i64 p.7, .string p.8, .string p.9]) rfl (by exact yieldsIf_load_mid (by rfl) 39 (.tmp 98) rfl bp (op + i * 15) rfl [.int .i64 p.1, .string p.2, .string p.3, .string p.4, .string p.5, .int .i64 p.6.1, .string p.6.2, .string p.6.3, .string p.6.4, .string p.6.5, .string p.6.6, .bool p.6.7, .int .i64 p.7, .string p.8, .string p.9] _ (fun X hX => HRP.out X hX) Try.underlying39 rfl (by kernel_rfl)) hH0 ?_
     simp only [Act.put, pu1, pu2, pu3, pu4, pu5, pu6]
     refine wpAnyL_duo (i := 5) (j := 9) (by decide +kernel) (by rfl) (by rfl) (fun K hK => ?_) (fun K hK => ?_)
     ·rw [if_pos (by rfl)]
      go_simp
      refine (HAY.out u0 (HSK.out _ hH0)).mono ?_
      rintro e u1 ⟨v', rfl, hO, hx1⟩
      have hH1 := hH0.trans (hx1.mono hH0.size)
      have hlt0 := World.ownsRow.lt hO
      have hO := own_weak hO hH0.size
      obtain ⟨A', c', hv', _, hc'⟩ := hO.row
      dsimp only at hv' hc'
      obtain ⟨n', hn'⟩ : ∃ n', c9.length = n' := ⟨_, rfl⟩
      have hlt9 := World.ownsRow.lt hO
      rw [hn'] at hv' hc'
      subst hv'
      have HN := hide hn'
      clear hn'
      refine hK.out _ _ (Or.inr hH1) ?_
      clear hK K hx1
      try simp only [Act.put, pu1, pu2, pu3, pu4, pu5, pu6]
      refine tkY 6 14 ?_ rfl ?_ hH1 ?_
      rotate_left
      ·intro wS hS; go_simp; (try with_reducible rfl)
      simp only [Act.put, pu1, pu2, pu3, pu4, pu5, pu6]
      refine tkY 7 14 ?_ rfl ?_ hH1 ?_
      rotate_left
      ·intro wS hS; go_simp; (try with_reducible rfl)
      simp only [Act.put, pu1, pu2, pu3, pu4, pu5, pu6]
      refine tkY 8 14 ?_ rfl ?_ hH1 ?_
      rotate_left
      ·intro wS hS; go_simp; (try with_reducible rfl)
      simp only [Act.put, pu1, pu2, pu3, pu4, pu5, pu6]
      refine onY 9 (by rfl) fun K hK => ?_
      go_simp
      have hx2 := Below.news (Below.refl u1.heap.size u1) (.cells #[.slice none 0 0] 24)
      have hr2 := heap_alloc_new u1 (.cells #[.slice none 0 0] 24)
      have hg2 : wq.heap.size ≤ u1.heap.size := hH1.size
      have hH2 := hH1.trans (hx2.mono hH1.size)
      have hO := hO.below hx2
      refine hK.out _ _ (Or.inr hH2) ?_
      clear hK K hx2
      generalize u1.alloc (.cells #[.slice none 0 0] 24) = u2 at *
      generalize u1.heap.size = g2 at *
      try simp only [Act.put, pu1, pu2, pu3, pu4, pu5, pu6]
      refine onY 10 (by rfl) fun K hK => ?_
      have hst := store_part (ty := 24) u2 g2 0 #[.slice none 0 0] (.agg #[.slice A' n' c']) #[.slice A' n' c'] hr2 infoCode1 (Nat.le_refl _) (one_code _ _ _) rfl
      go_simp
      clear hst
      have hr3 := setRow_heap u2 g2 _ #[.slice A' n' c'] _ _ hr2
      have hH3 := below_setRow hH2 hg2 (g := g2) #[.slice A' n' c']
      have hO3 := own_other hO (g := g2) (fun e => by have := hlt9 _ e; omega) #[.slice A' n' c']
      refine hK.out _ _ (Or.inr hH3) ?_
      clear hK K 
      try simp only [Act.put, pu1, pu2, pu3, pu4, pu5, pu6]
      refine onY 11 (by rfl) fun K hK => ?_
      go_simp
      refine hK.out _ _ (Or.inr hH3) ?_
      clear hK K 
      try simp only [Act.put, pu1, pu2, pu3, pu4, pu5, pu6]
      refine dnY ?_
      go_wp2_with fail
      go_meet
      case rel => exact ⟨rfl, g2, A', n', c', rfl, HN.out, hc', hg2, hr3, hH3, hO3⟩
     ·rw [if_pos (by rfl)]
      go_simp
      have hx2 := Below.news (Below.refl u0.heap.size u0) (.cells #[.slice none 0 0] 24)
      have hr1 := heap_alloc_new u0 (.cells #[.slice none 0 0] 24)
      have hg2 : wq.heap.size ≤ u0.heap.size := hH0.size
      have hH1 := hH0.trans (hx2.mono hH0.size)
      refine hK.out _ _ (Or.inr hH1) ?_
      clear hK K hx2
      generalize u0.alloc (.cells #[.slice none 0 0] 24) = u1 at *
      generalize u0.heap.size = g2 at *
      try simp only [Act.put, pu1, pu2, pu3, pu4, pu5, pu6]
      refine onY 5 (by rfl) fun K hK => ?_
      have hg1 := lt_of_block hr1
      go_simp
      refine (HAY.out u1 (HSK.out _ hH1)).mono ?_
      rintro e u2 ⟨v', rfl, hO, hx1⟩
      have hH2 := hH1.trans (hx1.mono hH1.size)
      have hlt0 := World.ownsRow.lt hO
      have hO := own_weak hO hH1.size
      obtain ⟨A', c', hv', _, hc'⟩ := hO.row
      dsimp only at hv' hc'
      obtain ⟨n', hn'⟩ : ∃ n', c9.length = n' := ⟨_, rfl⟩
      have hlt9 := World.ownsRow.lt hO
      rw [hn'] at hv' hc'
      subst hv'
      have HN := hide hn'
      clear hn'
      have hr2 := iNext hr1 hx1
      refine hK.out _ _ (Or.inr hH2) ?_
      clear hK K hx1
      try simp only [Act.put, pu1, pu2, pu3, pu4, pu5, pu6]
      refine tkY 6 14 ?_ rfl ?_ hH2 ?_
      rotate_left
      ·intro wS hS; go_simp; (try with_reducible rfl)
      simp only [Act.put, pu1, pu2, pu3, pu4, pu5, pu6]
      refine tkY 7 14 ?_ rfl ?_ hH2 ?_
      rotate_left
      ·intro wS hS; go_simp; (try with_reducible rfl)
      simp only [Act.put, pu1, pu2, pu3, pu4, pu5, pu6]
      refine tkY 8 14 ?_ rfl ?_ hH2 ?_
      rotate_left
      ·intro wS hS; go_simp; (try with_reducible rfl)
      simp only [Act.put, pu1, pu2, pu3, pu4, pu5, pu6]
      refine onY 10 (by rfl) fun K hK => ?_
      have hst := store_part (ty := 24) u2 g2 0 #[.slice none 0 0] (.agg #[.slice A' n' c']) #[.slice A' n' c'] hr2 infoCode1 (Nat.le_refl _) (one_code _ _ _) rfl
      go_simp
      clear hst
      have hr3 := setRow_heap u2 g2 _ #[.slice A' n' c'] _ _ hr2
      have hH3 := below_setRow hH2 hg2 (g := g2) #[.slice A' n' c']
      have hO3 := own_other hO (g := g2) (fun e => by have := hlt0 _ e; omega) #[.slice A' n' c']
      refine hK.out _ _ (Or.inr hH3) ?_
      clear hK K 
      try simp only [Act.put, pu1, pu2, pu3, pu4, pu5, pu6]
      refine onY 11 (by rfl) fun K hK => ?_
      go_simp
      refine hK.out _ _ (Or.inr hH3) ?_
      clear hK K 
      try simp only [Act.put, pu1, pu2, pu3, pu4, pu5, pu6]
      refine dnY ?_
      go_wp2_with fail
      go_meet
      case rel => exact ⟨rfl, g2, A', n', c', rfl, HN.out, hc', hg2, hr3, hH3, hO3⟩
    case rest =>
     obtain ⟨rfl, b19, A', n', c', rfl, hn', hc', hb19, r19, hbz, hO9⟩ := hcut
     rename World => wz
     have hw9 := own_where hO9
     obtain ⟨A9, c99, hv9, hr9, _⟩ := hO9.row
     injection hv9 with e1 e2 e3
     clear e2
     subst e1 e3
     have HS9 := hide (HSK.out _ hbz)
     have hr17 := iNext H17.out hbz
     have hw9s : w.heap.size ≤ wz.heap.size := HS9.out.up.size
     have hup := hide HS9.out.up
     have htop : b14 < wq.heap.size := lt_of_block HS17.out.rC
     have HN9 := hide hn'; have HC9 := hide hc'
     clear hn' hc' HSK HRP HAY hbz H17 HBQ hO9
     by_cases hk1 : p.kind = 1
     ·have hK12 : K = 12 := by
       have hx := HX.out
       unfold Dg.invP at hx
       rw [HAP.out, if_neg (fun h => h rfl), if_pos hk1] at hx
       injection hx with _ hx
       exact hx.symm
      subst hK12
      clear r19 hr17 hr9 hw9
      go_wp2
      go_ret
      exact ⟨rfl, hup.out⟩
     ·have hK0 : K = 0 := by
       have hx := HX.out
       unfold Dg.invP at hx
       rw [HAP.out, if_neg (fun h => h rfl), if_neg hk1] at hx
       injection hx with _ hx
       exact hx.symm
      subst hK0
      have hxe : (Dg.invP ck p).1 = x := by rw [HX.out]
      obtain ⟨_, hb2, _, hx2⟩ := Dg.inv_back HAP.out hk1
      rw [hxe] at hb2 hx2
      have HXW := hide (show PtW x by rw [← hxe]; exact inv_w HPW.out HAP.out hk1)
      have HX2 := hide hx2
      have HBK2 := hide (show Dg.runT Dg.oneP c9 (x :: bk) = some a by
       rw [Dg.runT, Dg.oneP_iff.2 hb2]
       exact HBK.out)
      have hL17 := hide (range_of hr17 0 [.int .i64 x.1, .string x.2, .string x.3, .string x.4, .string x.5, .int .i64 x.6.1, .string x.6.2, .string x.6.3, .string x.6.4, .string x.6.5, .string x.6.6, .bool x.6.7, .int .i64 x.7, .string x.8, .string x.9] rfl)
      have hfl : Own1 ptL 39 (wz.alloc (.cells #[.int .i64 x.1, .string x.2, .string x.3, .string x.4, .string x.5, .int .i64 x.6.1, .string x.6.2, .string x.6.3, .string x.6.4, .string x.6.5, .string x.6.6, .bool x.6.7, .int .i64 x.7, .string x.8, .string x.9] 39)) wz.heap.size (.slice (some ⟨wz.heap.size, 0, none⟩) 1 1) [x] := Own1.mk (L := ptL) (l := [x]) (sp := []) (Nat.le_refl _) (heap_alloc_new wz _) (by unfold maxLen; decide) (Nat.le_refl _) rfl
      have hbn := Below.news (Below.refl wz.heap.size wz) (.cells #[.int .i64 x.1, .string x.2, .string x.3, .string x.4, .string x.5, .int .i64 x.6.1, .string x.6.2, .string x.6.3, .string x.6.4, .string x.6.5, .string x.6.6, .bool x.6.7, .int .i64 x.7, .string x.8, .string x.9] 39)
      have hbr := HS9.out.bak.below hbn
      have hsz : wz.heap.size ≤ (wz.alloc (.cells #[.int .i64 x.1, .string x.2, .string x.3, .string x.4, .string x.5, .int .i64 x.6.1, .string x.6.2, .string x.6.3, .string x.6.4, .string x.6.5, .string x.6.6, .bool x.6.7, .int .i64 x.7, .string x.8, .string x.9] 39)).heap.size := hbn.size
      have hln : [x].length + i ≤ 4294967296 := by show 1 + i ≤ _; omega
      clear hxe hb2 hx2 hr17
      go_wp2_with (first | (with_reducible refine wpList_load_mid rfl 39 (.tmp 17) rfl b17 0 rfl _ _ hL17.out Try.underlying39 rfl (by kernel_rfl) ?_) | (at_builtin; go_loud (refine step_app1 (L := ptL) rfl (.tmp 109) (.tmp 110) 28 39 _ 208 rfl Try.underlying28 patchInfo rfl (by decide) wz.heap.size wz.heap.size _ [x] bk rfl hfl Ab i cb rfl HBL.out hbr hln (by decide) hsz ?_)))
      intro v1 w9 q1 q2 _ _
      have hbz9 : Below wz.heap.size wz w9 := hbn.trans q2
      have hS10 := HS9.out.below hbz9
      have r199 := iNext r19 hbz9
      obtain ⟨A3, c3, hv1, hr3, _⟩ := q1.row
      have hlen : ([x] ++ bk).length = i + 1 := by rw [List.length_append, HBL.out]; show 1 + i = i + 1; omega
      have hv1' : v1 = .slice A3 (i + 1) c3 := by rw [hv1]; exact congrArg (fun q => Value.slice A3 q c3) hlen
      clear hv1
      subst hv1'
      have hw3 := own_where q1
      have c19 := iCells0 r199
      have hst := store_part (ty := 24) w9 b14 0 #[.slice Ac nc cc] (.agg #[.slice A' n' c']) #[.slice A' n' c'] hS10.rC infoCode1 (Nat.le_refl _) (one_code _ _ _) rfl
      have HS11 := hide (hS10.turn hbFw h914 (hr9.its.keep hbz9) (fun _ ad had e => by have := (hw9 ad had).1; omega) HN9.out HC9.out hr3 (fun _ ad had e => by have := (hw3 ad had).1; have := hb19; have := lt_of_block HS9.out.rC; omega))
      have HLEN := hide hlen
      clear hbz9 hS10 r199 r19 q1 q2 hr3 hw3 hr9 hw9 hfl hbn hbr hsz hln hL17 hlen
      go_wp2_with fail
      clear hst c19
      go_roundw
      case rel => exact ⟨i + 1, A', n', c', c9, A3, c3, [x] ++ bk, by omega, by go_num, rfl, HS11, HRun, HBK2, hide (fun z hz => (List.mem_cons.1 hz).elim (fun e => e ▸ ⟨HXW.out, HX2.out⟩) (HBW.out z)), HLEN⟩
      case measure => simp [intOf]; omega
  ·obtain rfl : i = nL := by omega
   have hck : ck = tt := by
    have h9 := HT.out
    rw [List.drop_of_length_le (by rw [HT2.out]; exact Nat.le_refl _)] at h9
    injection h9
   subst hck
   have c4 := iCells0 HS.out.rT
   go_wp2_with fail
   refine (all_ok ck B m d HM.out hmd HVT.out bk Ab i cb HBL.out (by omega) HBW.out a HBK.out wr (HS.out.itT.more HS.out.up.size) HS.out.bak).mono ?_
   rintro e w9 ⟨v9, rfl, hO9, hb9⟩
   obtain ⟨A9, c9, hv9, hr9, _⟩ := hO9.row
   rw [HL.out] at hv9
   subst hv9
   have hst := store_new (ty := 24) (T := 24) w9 #[.slice none 0 0] #[.slice A9 n c9] infoCode1 rfl (by simp [Value.oneCell'])
   have hbn := Below.news (Below.refl w9.heap.size w9) (.cells #[.slice A9 n c9] 24)
   have r21 := heap_alloc_new w9 (.cells #[.slice A9 n c9] 24)
   have hS10 := HS.out.below (bnext hb9 hbn)
   have hI9 := hr9.its.keep hbn
   clear hO9 hr9 hb9 hbn c4
   go_upto_region 25 with fail
   clear hst
   generalize w9.alloc (.cells #[.slice A9 n c9] 24) = w11 at *
   have c21 := iCells0 r21
   have c3 := iCells0 hS10.rF
   go_wp2_with fail
   refine (same18_of a a A9 A n c9 n c HL.out HL.out hn hn w11 hI9 (hS10.itF.more hS10.up.size) true (by simp)).mono ?_
   rintro e w12 ⟨rfl, hb12⟩
   clear c21 c3
   go_wp2
   go_ret
   exact ⟨rfl, bnext hS10.up hb12⟩
end Go.Proofs.Ytgmimhgeigbpkaa
/- The last step of each law's row: the result is true, and each argument reads as it did. No conditions. -/
namespace Go.Proofs.Ytgmimhgeigbpkaa
open Go Go.RowKit Go.ChangeShapes Go.WideShapes Go.ChangeAt
section
variable {H : Type} {enc : TypeId × Value → H} {P : Program}
theorem trodAll_later (hl : laidOutB P = true) {W W' : World} (hb : Below W.heap.size W W') : ∀ {ts : List TypeId} {vs : List Value} {ds : List (DataW H)} {ps : List MemPlace},
  (∀ t ∈ ts, P.readableRec t = true ∧ t < P.types.size) → (∀ x ∈ ps, x.block < W.heap.size) → DataW.TrodAll enc P W 0 (fun _ => true) true ts vs ds ps → DataW.TrodAll enc P W' 0 (fun b => decide (b < W.heap.size)) true ts vs ds ps
 | [], vs, ds, ps, _, _, h => by
  obtain ⟨rfl, rfl, rfl⟩ := trodAll_nil h
  exact trodAll_mk0
 | t :: ts, vs, ds, ps, hts, hlt, h => by
  obtain ⟨v, vs', d, ds', p, q, rfl, rfl, rfl, hv, hr⟩ := trodAll_cons h
  obtain ⟨h1, h2⟩ := hts t (List.mem_cons_self ..)
  exact trodAll_cons_mk (Below.trod hl h1 h2 hv hb fun x hx => hlt x (List.mem_append_left _ hx))
   (trodAll_later hl hb (fun t' ht' => hts t' (List.mem_cons_of_mem _ ht')) (fun x hx => hlt x (List.mem_append_right _ hx)) hr)
theorem law_post (hl : laidOutB P = true) {f : Func} {s : ChangeSpec} (hv : s.vars = []) {tb : TypeId} (hrt : f.resultTypes = #[tb]) (htb : P.underlying tb = some .bool)
  (hts : (f.params.toList.all fun t => P.readableRec t && decide (t < P.types.size)) = true) {W W' : World} {args : Array Value} {ds gs : List (DataW H)} {before : List MemPlace}
  (hW : DataW.Whole enc P f.params.toList s.vars false W args.toList ds gs before) (hfn : s.fn H (ds ++ gs) = { results := [.lit (.bool true)], args := ds }) (hb : Below W.heap.size W W') :
  s.post enc P f false true false false W args (.bool true) W' := by
 have hlt : ∀ p ∈ before, p.block < W.heap.size := fun p hp => hW.lt p hp
 have hW' := hW
 obtain ⟨p, q, hA, hV, rfl, _, _⟩ := hW
 refine ⟨ds, gs, p ++ q, [], p, [], hW', ?_, ?_, ?_, hb.frame _, fun h => by cases h⟩
 ·rw [hfn, hrt]
  exact trodAll_mk1 (shut_bool htb true)
 ·rw [hfn]
  exact trodAll_later hl hb (fun t ht => by have := List.all_eq_true.1 hts t ht; simpa using this) (fun x hx => hlt x (List.mem_append_left _ hx)) hA
 ·rw [hfn, hv]
  exact rfl
end
end Go.Proofs.Ytgmimhgeigbpkaa
/- The arguments of the laws, opened: strings, small numbers, slices of strings. No conditions. -/
namespace Go.Proofs.Ytgmimhgeigbpkaa
open Go Go.RowKit Go.ChangeShapes Go.WideShapes Go.ChangeAt Go.WideMaps Go.WideElems
open Go.ChangeMaps (open_string)
section
variable {H : Type} {enc : TypeId × Value → H}
theorem addr_of_cell {w : World} {a : Addr} {v : Value} (h : w.cell? a = some v) : a = ⟨a.block, a.off, none⟩ ∧ a.block < w.heap.size := by
 refine ⟨?_, block_lt_of_cell h⟩
 obtain ⟨b, off, sp⟩ := a
 cases sp with
 | none => rfl
 | some k =>
  exfalso
  unfold World.cell? at h
  simp at h
  split at h <;> simp at h
theorem add_plain (b off j : Nat) : (⟨b, off, none⟩ : Addr).add j = ⟨b, off + j, none⟩ := by
 unfold Addr.add
 by_cases h : j = 0
 ·rw [if_pos h, h, Nat.add_zero]
 ·rw [if_neg h]
end
end Go.Proofs.Ytgmimhgeigbpkaa
/- A seal that came in, opened. No conditions. -/
namespace Go.Proofs.Ytgmimhgeigbpkaa
open Go Go.RowKit Go.ChangeShapes Go.WideShapes Go.ChangeAt Go.WideMaps Go.WideElems Go.Joins
variable {H : Type} {enc : TypeId × Value → H}
theorem cellsStr : Try.prog.cellsOf 9 = 1 := by kernel_rfl
end Go.Proofs.Ytgmimhgeigbpkaa
/- Codes that came in, opened. No conditions. -/
namespace Go.Proofs.Ytgmimhgeigbpkaa
open Go Go.RowKit Go.ChangeShapes Go.WideShapes Go.ChangeAt Go.WideMaps Go.WideElems Go.Joins Go.Deep
variable {H : Type} {enc : TypeId × Value → H}
theorem cIntC : Try.prog.cellsOf 3 = 1 := by kernel_rfl
theorem cBoolC : Try.prog.cellsOf 4 = 1 := by kernel_rfl
theorem cItem : Try.prog.cellsOf 37 = 7 := by kernel_rfl
theorem cItems : Try.prog.cellsOf 22 = 1 := by kernel_rfl
theorem cCode : Try.prog.cellsOf 24 = 1 := by kernel_rfl
set_option maxRecDepth 100000 in
/-- The cells of an item that came in. -/
theorem trod_item {W : World} {k : Nat} {cs : List Value} {x : DataW H × List MemPlace} (h : DataW.trod enc Try.prog W 0 (fun _ => true) true k 37 cs = some x) :
  ∃ v : Dg.It, cs = (itV v).toList ∧ ItW v := by
 obtain ⟨xs, n, _, _, hlen, hxl, hf⟩ := DataW.trod_struct Try.underlying37 h
 rw [cItem] at hlen
 match cs, hlen with
 | [c0, c1, c2, c3, c4, c5, c6], _ =>
  match xs, hxl with
  | [y0, y1, y2, y3, y4, y5, y6], _ =>
   have f0 : DataW.trod enc Try.prog W 0 (fun _ => true) true n 3 [c0] = some y0 := by simpa [cIntC] using hf 0 _ rfl
   have f1 : DataW.trod enc Try.prog W 0 (fun _ => true) true n 9 [c1] = some y1 := by simpa [cellsStr] using hf 1 _ rfl
   have f2 : DataW.trod enc Try.prog W 0 (fun _ => true) true n 9 [c2] = some y2 := by simpa [cellsStr] using hf 2 _ rfl
   have f3 : DataW.trod enc Try.prog W 0 (fun _ => true) true n 9 [c3] = some y3 := by simpa [cellsStr] using hf 3 _ rfl
   have f4 : DataW.trod enc Try.prog W 0 (fun _ => true) true n 9 [c4] = some y4 := by simpa [cellsStr] using hf 4 _ rfl
   have f5 : DataW.trod enc Try.prog W 0 (fun _ => true) true n 9 [c5] = some y5 := by simpa [cellsStr] using hf 5 _ rfl
   have f6 : DataW.trod enc Try.prog W 0 (fun _ => true) true n 4 [c6] = some y6 := by simpa [cBoolC] using hf 6 _ rfl
   obtain ⟨m, e0, _, w0⟩ := DataW.trod_int Try.underlying3 f0
   obtain ⟨b1, e1, _, w1⟩ := DataW.trod_string Try.underlying9 f1
   obtain ⟨b2, e2, _, w2⟩ := DataW.trod_string Try.underlying9 f2
   obtain ⟨b3, e3, _, w3⟩ := DataW.trod_string Try.underlying9 f3
   obtain ⟨b4, e4, _, w4⟩ := DataW.trod_string Try.underlying9 f4
   obtain ⟨b5, e5, _, w5⟩ := DataW.trod_string Try.underlying9 f5
   obtain ⟨y, e6, _⟩ := DataW.trod_bool Try.underlying4 f6
   simp only [List.cons.injEq, and_true] at e0 e1 e2 e3 e4 e5 e6
   subst e0 e1 e2 e3 e4 e5 e6
   obtain ⟨m0, m1⟩ := bounds_i64 w0
   exact ⟨⟨m, b1, b2, b3, b4, b5, y⟩, rfl, ⟨m0, m1, w1, w2, w3, w4, w5⟩⟩
set_option maxRecDepth 100000 in
/-- A slice of items that came in. -/
theorem field_items {W : World} {v : Value} {n : Nat} {y : DataW H × List MemPlace} (hf : DataW.trod enc Try.prog W 0 (fun _ => true) true n 22 [v] = some y) :
  ∃ (A : Option Addr) (c : Nat) (l : List Dg.It), v = .slice A l.length c ∧ l.length ≤ 9223372036854775807 ∧ (∀ x ∈ l, ItW x) ∧ Its W W.heap.size A l ∧ l.length ≤ c := by
 rcases open_slice Try.underlying22 hf with ⟨hcs, _⟩ | ⟨a, len, cap, m, k, D, Pl, hcs, _, hl, hm, hmm, _, hi⟩
 ·simp only [List.cons.injEq, and_true] at hcs
  subst hcs
  exact ⟨none, 0, [], rfl, by simp, by simp, Its.nil _ _ _, by simp⟩
 ·simp only [List.cons.injEq, and_true] at hcs
  subst hcs
  simp only [if_true] at hmm
  unfold maxLen at hm
  rw [cItem] at hi
  have h1 : ∀ i, ∃ v : Dg.It, i < len → ItW v ∧ ∀ (j : Nat) (u : Value), (itV v)[j]? = some u → W.cell? ((a.add (i * 7)).add j) = some u := fun i => by
   by_cases hil : i < len
   ·obtain ⟨cs', hc, ht⟩ := hi i (by omega)
    obtain ⟨v, hcs, hw⟩ := trod_item ht
    obtain ⟨_, hcl, hat⟩ := World.cells?_some hc
    refine ⟨v, fun _ => ⟨hw, fun j u hj => ?_⟩⟩
    have hj7 : j < 7 := (Array.getElem?_eq_some_iff.1 hj).1
    rw [hat j hj7, hcs, Array.getElem?_toList]
    exact hj
   ·exact ⟨⟨0, ⟨#[]⟩, ⟨#[]⟩, ⟨#[]⟩, ⟨#[]⟩, ⟨#[]⟩, false⟩, fun h => absurd h hil⟩
  obtain ⟨f, hfv⟩ := Classical.axiomOfChoice h1
  have hlen : ((List.range len).map f).length = len := by rw [List.length_map, List.length_range]
  refine ⟨some a, cap, (List.range len).map f, by rw [hlen], by rw [hlen]; omega, fun v hv => ?_, ⟨fun h0 => ?_⟩, by rw [hlen]; exact hl⟩
  ·obtain ⟨i, hir, rfl⟩ := List.mem_map.1 hv
   exact (hfv i (List.mem_range.1 hir)).1
  ·rw [hlen] at h0
   obtain ⟨_, hc0⟩ := hfv 0 h0
   have h00 : (a.add (0 * 7)).add 0 = a := by unfold Addr.add; simp
   obtain ⟨e, hb⟩ := addr_of_cell (h00 ▸ hc0 0 _ rfl)
   refine ⟨a.block, a.off, by rw [← e], hb, fun j v hj i u hu => ?_⟩
   have hjl : j < len := by
    have := (List.getElem?_eq_some_iff.1 hj).1
    rw [hlen] at this; exact this
   rw [List.getElem?_map, List.getElem?_range hjl] at hj
   obtain rfl : f j = v := by simpa using hj
   obtain ⟨_, hc⟩ := hfv j hjl
   have e2 : (a.add (j * 7)).add i = ⟨a.block, a.off + j * 7 + i, none⟩ := by
    rw [e]
    rw [add_plain, add_plain]
   rw [← e2]
   exact hc i u hu
set_option maxRecDepth 100000 in
/-- A code. -/
theorem open_code {W : World} {v : Value} {d : DataW H} {p : List MemPlace} {base : Nat} (hv : Value.okWide Try.prog W .any base 24 v) (h : DataW.Trod enc Try.prog W 0 (fun _ => true) true 24 v d p) :
  ∃ (A : Option Addr) (c : Nat) (l : List Dg.It), v = .agg #[.slice A l.length c] ∧ l.length ≤ 9223372036854775807 ∧ (∀ x ∈ l, ItW x) ∧ Its W W.heap.size A l ∧ l.length ≤ c := by
 obtain ⟨cs, rfl, hsz⟩ := okWide_struct Try.underlying24 hv
 obtain ⟨l⟩ := cs
 match l, hsz.trans cCode with
 | [c0], _ =>
  obtain ⟨fuel, hf0⟩ := h
  obtain ⟨xs, n, _, _, _, hxl, hf⟩ := DataW.trod_struct Try.underlying24 hf0
  match xs, hxl with
  | [y0], _ =>
   have f0 : DataW.trod enc Try.prog W 0 (fun _ => true) true n 22 [c0] = some y0 := by simpa [Value.cells, cItems] using hf 0 _ rfl
   obtain ⟨A, c, l, rfl, a1, a2, a3, a4⟩ := field_items f0
   exact ⟨A, c, l, rfl, a1, a2, a3, a4⟩
end Go.Proofs.Ytgmimhgeigbpkaa
/- A slice of bytes that came in, opened. No conditions. -/
namespace Go.Proofs.Ytgmimhgeigbpkaa
open Go Go.RowKit Go.ChangeShapes Go.WideShapes Go.ChangeAt Go.WideMaps Go.WideElems Go.Joins Go.Deep
variable {H : Type} {enc : TypeId × Value → H}
theorem cU8 : Try.prog.cellsOf 5 = 1 := by kernel_rfl
set_option maxRecDepth 100000 in
/-- Bytes that came in. -/
theorem open_u8s {W : World} {v : Value} {d : DataW H} {p : List MemPlace} {base : Nat} (hv : Value.okWide Try.prog W .any base 25 v) (h : DataW.Trod enc Try.prog W 0 (fun _ => true) true 25 v d p) :
  ∃ (A : Option Addr) (c : Nat) (l : List Int), v = .slice A l.length c ∧ l.length ≤ 9223372036854775807 ∧ (∀ x ∈ l, 0 ≤ x ∧ x ≤ 255) ∧ Row1 uL W W.heap.size A l := by
 obtain ⟨a1, len, cap, rfl⟩ := okWide_slice Try.underlying25 hv
 obtain ⟨fuel, hf⟩ := h
 rcases open_ints Try.underlying25 Try.underlying5 cU8 hf with ⟨hcs, _⟩ | ⟨a, len', cap', zs, hcs, _, hl, hm, hz, _, hcell, hwz⟩
 ·simp [Value.cells] at hcs
  obtain ⟨rfl, rfl, rfl⟩ := hcs
  exact ⟨none, 0, [], rfl, by simp, fun x hx => absurd hx (by simp), Row1.nil _ _ _ _⟩
 ·simp [Value.cells] at hcs
  obtain ⟨rfl, rfl, rfl⟩ := hcs
  simp only [if_true] at hz
  unfold maxLen at hm
  have hlen : (zs.take len).length = len := by rw [List.length_take]; omega
  refine ⟨some a, cap, zs.take len, by rw [hlen], by rw [hlen]; omega, fun x hx => bounds_u8 (hwz x (List.mem_of_mem_take hx)), ⟨fun h0 => ?_⟩⟩
  rw [hlen] at h0
  have h00 : a.add 0 = a := by unfold Addr.add; simp
  obtain ⟨e, hb⟩ := addr_of_cell (h00 ▸ hcell 0 (by omega))
  refine ⟨a.block, a.off, by rw [← e], hb, fun j u hj => ?_⟩
  have hfl : uL.flat (zs.take len) = (zs.take len).map (Value.int .u8) := by
   generalize zs.take len = ys
   induction ys with
   | nil => rfl
   | cons y ys ih => rw [uL.flat_cons, ih]; rfl
  rw [hfl, List.getElem?_map] at hj
  cases hq : (zs.take len)[j]? with
  | none => rw [hq] at hj; cases hj
  | some y =>
   rw [hq] at hj
   cases hj
   rw [List.getElem?_take] at hq
   split at hq
   ·have hjz := (List.getElem?_eq_some_iff.1 hq).1
    have := hcell j hjz
    rw [e, add_plain] at this
    rw [this]
    congr 2
    rw [List.getD_eq_getElem?_getD, hq]
    rfl
   ·cases hq
end Go.Proofs.Ytgmimhgeigbpkaa

