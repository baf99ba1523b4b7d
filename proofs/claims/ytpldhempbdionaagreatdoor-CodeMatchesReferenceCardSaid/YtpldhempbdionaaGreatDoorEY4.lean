/- Walks and laws of this seat, several texts in one. No conditions but those that each theorem states. -/
import Derived.Test.YtpldhempbdionaaGreatDoorEY3
import Derived.Laws.StructEq
import Derived.Lib.SplitLaws
import Derived.Laws.ResultCell
import Derived.Deep.CutBlock
/- The law of the tree in terms of what Below and Under say. No conditions but those that each theorem states. -/
namespace Go.Proofs.YtpldhempbdionaaGreatDoor
open Go Go.RowKit Go.Sort Go.Maps
theorem fold_one {α β : Type} (P : α → Prop) [DecidablePred P] (g : α → β) : ∀ (zs : List α) (b : β), (∀ z ∈ zs, ¬ P z) → zs.foldl (fun b z => if P z then g z else b) b = b
  | [], _, _ => rfl
  | z :: zs, b, h => by
    rw [List.foldl_cons, if_neg (h z (List.mem_cons_self ..))]
    exact fold_one P g zs b (fun y hy => h y (List.mem_cons_of_mem _ hy))
theorem fold_at {α β : Type} (P : α → Prop) [DecidablePred P] (g : α → β) (zs : List α) (b : β) (k : Nat) (hk : k < zs.length) (h : P zs[k]) (hn : ∀ (j : Nat) (hj : j < zs.length), k < j → ¬ P zs[j]) : zs.foldl (fun b z => if P z then g z else b) b = g zs[k] := by
  have e : zs = zs.take k ++ zs[k] :: zs.drop (k + 1) := by
    rw [List.getElem_cons_drop, List.take_append_drop]
  conv => lhs; rw [e]
  rw [List.foldl_append, List.foldl_cons, if_pos h]
  refine fold_one P g _ _ fun z hz => ?_
  obtain ⟨j, hj, rfl⟩ := List.mem_iff_getElem.1 hz
  rw [List.length_drop] at hj
  rw [List.getElem_drop]
  exact hn _ (by omega) (by omega)
/-- Below and Under of a valid code. -/
theorem under_at {l : List Dg.It} (hv : Dg.validC l = true) {k : Nat} (hk : k < l.length) (dv : ByteArray) : ∃ o, (Dg.visits l)[k]? = some o ∧ underC l l[k].id dv = (decide (dv = Dg.nil8) || Dg.inB o dv) := by
  obtain ⟨s, hw, _⟩ := Dg.valid_walk hv
  have hl := Dg.walk_len (Nat.le_refl _) hw
  have hkv : k < (Dg.visits l).length := by rw [hl]; exact hk
  refine ⟨(Dg.visits l)[k], List.getElem?_eq_getElem hkv, ?_⟩
  unfold underC underF
  rw [hv, Bool.true_and]
  have hz : ((Dg.visits l).zip l).length = l.length := by rw [List.length_zip, hl, Nat.min_self]
  have := fold_at (fun p : List ByteArray × Dg.It => p.2.id = l[k].id) (fun p => (decide (dv = Dg.nil8) || Dg.inB p.1 dv)) ((Dg.visits l).zip l) false k (by rw [hz]; exact hk) (by rw [List.getElem_zip]) (fun j hj hkj => by
    rw [List.getElem_zip]
    rw [hz] at hj
    exact fun e => Dg.ids_ne (Nat.le_refl _) hw hkj hj e.symm)
  rw [List.getElem_zip] at this
  exact this
theorem below_none {l : List Dg.It} (hv : Dg.validC l = false) (id : ByteArray) : belowC l id = [] := by
  unfold belowC
  rw [if_neg (by rw [hv]; exact Bool.false_ne_true)]
end Go.Proofs.YtpldhempbdionaaGreatDoor
/- Same of the reference for codes. No conditions but those that each theorem states. -/
namespace Go.Proofs.YtpldhempbdionaaGreatDoor
open Go Go.RowKit Go.Sort Go.Maps
theorem bytes_beq (a b : ByteArray) : (a.toList == b.toList) = true ↔ a = b := by
  rw [beq_iff_eq]
  constructor
  · intro h
    rw [ByteArray.toList_eq, ByteArray.toList_eq] at h
    obtain ⟨⟨x⟩⟩ := a
    obtain ⟨⟨y⟩⟩ := b
    simpa using h
  · rintro rfl; rfl
theorem it_ext {x y : Dg.It} (h1 : x.kind = y.kind) (h2 : x.id = y.id) (h3 : x.parent = y.parent) (h4 : x.number = y.number) (h5 : x.north = y.north) (h6 : x.south = y.south) (h7 : x.gone = y.gone) : x = y := by
  cases x; cases y; simp_all
def sameI (x y : Dg.It) : Bool := (x.kind == y.kind) && ((x.id.toList == y.id.toList) && ((x.parent.toList == y.parent.toList) && ((x.number.toList == y.number.toList) && ((x.north.toList == y.north.toList) && ((x.south.toList == y.south.toList) && (x.gone == y.gone))))))
theorem sameI_iff (x y : Dg.It) : sameI x y = true ↔ x = y := by
  unfold sameI
  rw [Bool.and_eq_true, Bool.and_eq_true, Bool.and_eq_true, Bool.and_eq_true, Bool.and_eq_true, Bool.and_eq_true, bytes_beq, bytes_beq, bytes_beq, bytes_beq, bytes_beq, beq_iff_eq, beq_iff_eq]
  constructor
  · rintro ⟨h1, h2, h3, h4, h5, h6, h7⟩
    exact it_ext h1 h2 h3 h4 h5 h6 h7
  · rintro rfl
    exact ⟨rfl, rfl, rfl, rfl, rfl, rfl, rfl⟩
set_option maxRecDepth 100000 in
theorem item_run (w : World) (x y : Dg.It) : (binOp .neq 31 (.agg #[.int .i64 x.kind, .string x.id, .string x.parent, .string x.number, .string x.north, .string x.south, .bool x.gone]) (.agg #[.int .i64 y.kind, .string y.id, .string y.parent, .string y.number, .string y.north, .string y.south, .bool y.gone])).run Tryz.prog w = .ok (.bool (!sameI x y)) w := by
  have hS : Tryz.prog.underlying 31 = some (.struct (Tryz.prog.fieldsOf 31)) := by kernel_rfl
  have hp : Tryz.prog.stoodInHeld 31 = false := by kernel_rfl
  rw [run_neq_struct, show (10000 : Nat) = 9999 + 1 from rfl, run_equalIn_agg w 9999 31 _ _ hS hp]
  simp only [Program.fieldsOf, Tryz.underlying31]
  have u3 := Tryz.underlying3
  have u4 := Tryz.underlying4
  have u5 := Tryz.underlying9
  have a3 := Tryz.isAgg3
  have a4 := Tryz.isAgg4
  have a5 := Tryz.isAgg9
  have z3 := Tryz.sizeOf3
  have z4 := Tryz.sizeOf4
  have z5 := Tryz.sizeOf9
  go_simp
  unfold sameI
  by_cases h1 : x.kind = y.kind <;> by_cases h2 : x.id.toList = y.id.toList <;> by_cases h3 : x.parent.toList = y.parent.toList <;> by_cases h4 : x.number.toList = y.number.toList <;> by_cases h5 : x.north.toList = y.north.toList <;> by_cases h6 : x.south.toList = y.south.toList <;> by_cases h7 : x.gone = y.gone <;> simp [h1, h2, h3, h4, h5, h6, h7]
end Go.Proofs.YtpldhempbdionaaGreatDoor
/- Same of the reference for codes: the walk. No conditions but those that each theorem states. -/
namespace Go.Proofs.YtpldhempbdionaaGreatDoor
open Go Go.RowKit Go.Sort Go.Maps
attribute [-go_sem] run_neq_struct in
set_option maxRecDepth 100000 in
set_option maxHeartbeats 8000000 in
theorem same18_of (l m : List Dg.It) (A B : Option Addr) (n c k d : Nat) (hl : l.length = n) (hm : m.length = k) (hn : n ≤ 9223372036854775807) (hk : k ≤ 9223372036854775807) (w : World) (hI : Its w w.heap.size A l) (hJ : Its w w.heap.size B m) (R : Bool) (hR : R = true ↔ l = m) :
    Calls Tryz.prog 16 #[.agg #[.slice A n c], .agg #[.slice B k d]] w fun e w' => e = .returned (.bool R) ∧ Below w.heap.size w w' := by
  have hx1 := Below.news (Below.refl w.heap.size w) (.cells #[.slice A n c] 24)
  have hx2 := bnext hx1 (Below.news (Below.refl (w.alloc (.cells #[.slice A n c] 24)).heap.size (w.alloc (.cells #[.slice A n c] 24))) (.cells #[.slice B k d] 24))
  have hr1 := iNext (heap_alloc_new w (.cells #[.slice A n c] 24)) (Below.news (Below.refl (w.alloc (.cells #[.slice A n c] 24)).heap.size (w.alloc (.cells #[.slice A n c] 24))) (.cells #[.slice B k d] 24))
  have hr2 := heap_alloc_new (w.alloc (.cells #[.slice A n c] 24)) (.cells #[.slice B k d] 24)
  have hI2 := hI.keep hx2
  have hJ2 := hJ.keep hx2
  have hz1 : (w.alloc (.cells #[.slice A n c] 24)).heap.size = w.heap.size + 1 := by simp
  rw [hz1] at hr2
  clear hx1 hI hJ hz1
  have HL := hide hl; have HM := hide hm; have HR := hide hR
  clear hl hm hR
  go_enter Tryz.func16, Tryz.ntmps16
  go_upto_region 1 with (fail)
  generalize (w.alloc (.cells #[.slice A n c] 24)).alloc (.cells #[.slice B k d] 24) = w2 at *
  have hc1 := iCells0 hr1
  have hc2 := iCells0 hr2
  by_cases hnk : n = k
  · obtain rfl := hnk
    go_wp2
    clear hc1 hc2
    go_loopw [5] (fun iv wr => ∃ j : Nat, j ≤ n ∧ iv = .int .i64 (j : Int) ∧ Below w.heap.size w wr ∧ Below w2.heap.size w2 wr ∧ Hid (∀ i, i < j → l[i]? = m[i]?)) (fun iv _ => n - (intOf iv).toNat)
    case atStart => exact ⟨0, by omega, rfl, hx2, Below.refl _ _, fun i hi => absurd hi (by omega)⟩
    case round =>
      obtain ⟨j, hj, rfl, hb, hb2, hall⟩ := hrel
      have hc1 := iCells0 (iNext hr1 hb2)
      have hc2 := iCells0 (iNext hr2 hb2)
      have hIr := hI2.keep hb2
      have hJr := hJ2.keep hb2
      by_cases hlt : j < n
      · have hjn : (j : Int) < (n : Int) := by omega
        have hj0 : (0 : Int) ≤ (j : Int) := by omega
        have hjl : j < l.length := by rw [HL.out]; exact hlt
        have hjm : j < m.length := by rw [HM.out]; exact hlt
        obtain ⟨ba, oa, rfl⟩ := hIr.some hjl
        obtain ⟨bb, ob, rfl⟩ := hJr.some hjm
        obtain ⟨x, hx⟩ : ∃ x, l[j] = x := ⟨_, rfl⟩
        obtain ⟨y, hy⟩ : ∃ y, m[j] = y := ⟨_, rfl⟩
        obtain ⟨_, p0, p1, p2, p3, p4, p5, p6⟩ := hIr.cells hjl x hx
        obtain ⟨_, q0, q1, q2, q3, q4, q5, q6⟩ := hJr.cells hjm y hy
        have HX := hide hx; have HY := hide hy
        clear hx hy hIr hJr hI2 hJ2
        obtain ⟨S, hS⟩ : ∃ S, sameI x y = S := ⟨_, rfl⟩
        have hneq : ∀ wx, (binOp .neq 31 (.agg #[.int .i64 x.kind, .string x.id, .string x.parent, .string x.number, .string x.north, .string x.south, .bool x.gone]) (.agg #[.int .i64 y.kind, .string y.id, .string y.parent, .string y.number, .string y.north, .string y.south, .bool y.gone])).run Tryz.prog wx = .ok (.bool (!S)) wx := fun wx => by rw [← hS]; exact item_run wx x y
        have HS := hide hS
        clear hS
        have hqg : Tryz.prog.eqGuardType Tryz.prog.depth 31 = false := by kernel_rfl
        go_upto_region 6 with (fail)
        go_quiet (fail)
        have hbn := below_drewN (Below.refl wr.heap.size wr) nq
        cases S with
        | true =>
          go_wp2
          go_roundw
          case rel => exact ⟨j + 1, by omega, by go_num, bnext hb hbn, bnext hb2 hbn, fun i hi => by
            rcases Nat.lt_or_eq_of_le (Nat.le_of_lt_succ hi) with h | h
            · exact hall.out i h
            · rw [h, List.getElem?_eq_getElem hjl, List.getElem?_eq_getElem hjm, HX.out, HY.out, (sameI_iff x y).1 HS.out]⟩
          case measure => simp [intOf]; omega
        | false =>
          have E9 := hide (show false = R by
            cases hr9 : R with
            | false => rfl
            | true =>
              have h9 := HR.out.1 hr9
              have h8 : x = y := by rw [← HX.out, ← HY.out]; simp only [h9]
              rw [(sameI_iff x y).2 h8] at HS
              exact absurd HS.out (by decide))
          go_wp2
          go_ret
          exact ⟨ret_bool E9.out, bnext hb hbn⟩
      · obtain rfl : n = j := by omega
        have E9 := hide (show true = R from (HR.out.2 (List.ext_getElem? fun i => by
          by_cases hi : i < n
          · exact hall.out i hi
          · rw [List.getElem?_eq_none (by rw [HL.out]; omega), List.getElem?_eq_none (by rw [HM.out]; omega)])).symm)
        go_wp2
        go_ret
        exact ⟨ret_bool E9.out, hb⟩
  · have hnk' : ¬ (n : Int) = (k : Int) := by omega
    have E9 := hide (show false = R by
      cases hr9 : R with
      | false => rfl
      | true => exact absurd (by rw [← HL.out, ← HM.out, HR.out.1 hr9]) hnk)
    clear hnk
    go_wp2
    go_ret
    exact ⟨ret_bool E9.out, hx2⟩
end Go.Proofs.YtpldhempbdionaaGreatDoor
/- Two codes of a law. No conditions but those that each theorem states. -/
namespace Go.Proofs.YtpldhempbdionaaGreatDoor
open Go Go.RowKit Go.Sort Go.Maps
/-- What a law about two codes holds. -/
structure C2 (g g' : Nat) (A : Option Addr) (n c : Nat) (l : List Dg.It) (A' : Option Addr) (n' c' : Nat) (l' : List Dg.It) (X : World) : Prop where
  r1 : X.heap[g]? = some (.cells #[.slice A n c] 24 (0, 0))
  r2 : X.heap[g']? = some (.cells #[.slice A' n' c'] 24 (0, 0))
  i1 : Its X X.heap.size A l
  i2 : Its X X.heap.size A' l'
  env : Env X
theorem C2.below {g g' : Nat} {A : Option Addr} {n c : Nat} {l : List Dg.It} {A' : Option Addr} {n' c' : Nat} {l' : List Dg.It} {X X' : World} (h : C2 g g' A n c l A' n' c' l' X) (hb : Below X.heap.size X X') : C2 g g' A n c l A' n' c' l' X' :=
  ⟨iNext h.r1 hb, iNext h.r2 hb, h.i1.keep hb, h.i2.keep hb, h.env.next hb⟩
theorem fieldsC_size {l : List Dg.It} {z : Nat} (h : ∀ x ∈ l, ∀ s ∈ Dg.fieldsI x, s.size ≤ z) : ∀ s ∈ Dg.fieldsC l, s.size ≤ z := fun s hs => by
  unfold Dg.fieldsC at hs
  obtain ⟨x, hx, hxs⟩ := List.mem_flatMap.1 hs
  exact h x hx s hxs
theorem few_sizes {l : List Dg.It} {m : Nat} (h : fewC l m = true) : l.length ≤ m ∧ ∀ x ∈ l, ∀ s ∈ Dg.fieldsI x, s.size ≤ 500 := by
  obtain ⟨h1, h2⟩ := fewC_spec h
  exact ⟨h1, fun x hx => small_fields (h2 x hx)⟩
theorem few_up {l : List Dg.It} {z y : Nat} (h : ∀ x ∈ l, ∀ s ∈ Dg.fieldsI x, s.size ≤ z) (hzy : z ≤ y) : ∀ x ∈ l, ∀ s ∈ Dg.fieldsI x, s.size ≤ y := fun x hx s hs => Nat.le_trans (h x hx s hs) hzy
end Go.Proofs.YtpldhempbdionaaGreatDoor
/- The leaf of an item by the reference. No conditions but those that each theorem states. -/
namespace Go.Proofs.YtpldhempbdionaaGreatDoor
open Go Go.RowKit Go.Sort Go.Maps
def kindS (x : Dg.It) : ByteArray := if x.kind = 1 then Dg.sD else Dg.sA
def leafS (x : Dg.It) : List ByteArray := [kindS x, x.id, x.parent, x.north, x.south]
theorem leafS_size {x : Dg.It} {z : Nat} (hz : 1 ≤ z) (h : ∀ s ∈ Dg.fieldsI x, s.size ≤ z) : ∀ s ∈ leafS x, s.size ≤ z := fun s hs => by
  unfold leafS at hs
  unfold Dg.fieldsI at h
  simp only [List.mem_cons, List.not_mem_nil, or_false] at hs h
  rcases hs with rfl | rfl | rfl | rfl | rfl
  · unfold kindS; split <;> exact hz
  · exact h _ (Or.inr (Or.inl rfl))
  · exact h _ (Or.inr (Or.inr (Or.inl rfl)))
  · exact h _ (Or.inr (Or.inr (Or.inr (Or.inr (Or.inl rfl)))))
  · exact h _ (Or.inr (Or.inr (Or.inr (Or.inr (Or.inr rfl)))))
set_option maxRecDepth 100000 in
set_option maxHeartbeats 4000000 in
theorem rleaf_of (x : Dg.It) (hz : ∀ s ∈ leafS x, s.size ≤ 1048576) (w : World) (K : ByteArray) (hK : Dg.leafI x = K) :
    Calls Tryz.prog 69 #[.agg #[.int .i64 x.kind, .string x.id, .string x.parent, .string x.number, .string x.north, .string x.south, .bool x.gone]] w fun e w' => e = .returned (.string K) ∧ Below w.heap.size w w' := by
  have hx1 := Below.news (Below.refl w.heap.size w) (.cells #[.int .i64 x.kind, .string x.id, .string x.parent, .string x.number, .string x.north, .string x.south, .bool x.gone] 31)
  have hrow := heap_alloc_new w (.cells #[.int .i64 x.kind, .string x.id, .string x.parent, .string x.number, .string x.north, .string x.south, .bool x.gone] 31)
  have HZ := hide hz; have HK := hide hK
  clear hz hK
  obtain ⟨c0, c1, c2, c3, c4, c5, c6⟩ := iCells hrow
  go_enter Tryz.func69, Tryz.ntmps69
  by_cases kz : x.kind = 1
  · have kb : (x.kind == 1) = true := beq_iff_eq.2 kz
    have ek : kindS x = ⟨#[100]⟩ := if_pos kz
    have HJ := hide (joined_new (leafS x) #[.string ⟨#[100]⟩, .string x.id, .string x.parent, .string x.north, .string x.south] 9 5 5 rfl (by show 5 ≤ 8; decide) HZ.out K HK.out (w.alloc (.cells #[.int .i64 x.kind, .string x.id, .string x.parent, .string x.number, .string x.north, .string x.south, .bool x.gone] 31)) (by unfold leafS; rw [ek]; rfl) (w.heap.size + 1) (by simp))
    clear kz ek
    go_wp2_with fail
    refine HJ.out.mono ?_
    rintro e w2 ⟨rfl, hb⟩
    have hb2 := bnext hx1 hb
    clear hb HJ
    go_wp2
    go_ret
    exact ⟨rfl, hb2⟩
  · have kb : (x.kind == 1) = false := beq_eq_false_iff_ne.2 kz
    have ek : kindS x = ⟨#[97]⟩ := if_neg kz
    have HJ := hide (joined_new (leafS x) #[.string ⟨#[97]⟩, .string x.id, .string x.parent, .string x.north, .string x.south] 9 5 5 rfl (by show 5 ≤ 8; decide) HZ.out K HK.out (w.alloc (.cells #[.int .i64 x.kind, .string x.id, .string x.parent, .string x.number, .string x.north, .string x.south, .bool x.gone] 31)) (by unfold leafS; rw [ek]; rfl) (w.heap.size + 1) (by simp))
    clear kz ek
    go_wp2_with fail
    refine HJ.out.mono ?_
    rintro e w2 ⟨rfl, hb⟩
    have hb2 := bnext hx1 hb
    clear hb HJ
    go_wp2
    go_ret
    exact ⟨rfl, hb2⟩
end Go.Proofs.YtpldhempbdionaaGreatDoor
/- Leaves of the reference. No conditions but those that each theorem states. -/
namespace Go.Proofs.YtpldhempbdionaaGreatDoor
open Go Go.RowKit Go.Sort Go.Maps
theorem ret_sl {A : Option Addr} {n m c : Nat} (h : n = m) : Ending.returned (.slice A n c) = .returned (.slice A m c) := by rw [h]
theorem leaves_snoc (l : List Dg.It) (k : Nat) (hk : k < l.length) : Dg.leavesOf (l.take (k + 1)) = Dg.leavesOf (l.take k) ++ (if l[k].gone = true then [] else [Dg.leafI l[k]]) := by
  rw [List.take_succ_eq_append_getElem hk]
  unfold Dg.leavesOf
  rw [List.filter_append, List.map_append]
  congr 1
  cases hg : l[k].gone
  · rw [List.filter_cons_of_pos (by rw [hg]; rfl)]; rfl
  · rw [List.filter_cons_of_neg (by rw [hg]; decide)]; rfl
set_option maxRecDepth 100000 in
set_option maxHeartbeats 8000000 in
theorem rleaves_of (l : List Dg.It) (A : Option Addr) (n c : Nat) (hl : l.length = n) (hw : ∀ x ∈ l, ItW x) (hn : n ≤ 1048576) (w : World) (hI : Its w w.heap.size A l) (hz : ∀ x ∈ l, ∀ s ∈ Dg.fieldsI x, s.size ≤ 1048576) (L : List ByteArray) (hL : Dg.leavesC l = L) (m : Nat) (hm : L.length = m) :
    Calls Tryz.prog 32 #[.agg #[.slice A n c]] w fun e w' => (∃ A' c', e = .returned (.slice A' m c') ∧ m ≤ c' ∧ Strs w' w'.heap.size A' L) ∧ Below w.heap.size w w' := by
  have hx1 := Below.news (Below.refl w.heap.size w) (.cells #[.slice A n c] 24)
  have hS1 : CR w.heap.size A n c l (w.alloc (.cells #[.slice A n c] 24)) := ⟨heap_alloc_new w _, hI.keep hx1⟩
  have HL := hide hl; have HW := hide hw; have HZ := hide hz; have HL7 := hide hL; have HM := hide hm; have HI := hide hI
  clear hl hI hw hz hL hm
  go_enter Tryz.func32, Tryz.ntmps32
  go_wp2_with fail
  generalize w.alloc (.cells #[.slice A n c] 24) = w1 at *
  have hc := iCells0 hS1.row
  go_wp2_with fail
  obtain ⟨V, hV⟩ : ∃ V, Dg.validC l = V := ⟨_, rfl⟩
  refine (rvalidC_of l A n c HL.out HW.out hn w1 hS1.its V hV).mono ?_
  rintro e w2 ⟨rfl, hx⟩
  have hS2 := hS1.below hx
  have hb2 := bnext hx1 hx
  clear hS1 hx1 hx hc
  have hc := iCells0 hS2.row
  cases V with
  | false =>
    have h0 : L = [] := by rw [← HL7.out]; unfold Dg.leavesC; rw [if_neg (by rw [hV]; exact Bool.false_ne_true)]
    have hm0 : m = 0 := by rw [← HM.out, h0]; rfl
    have H0 := hide h0; have HM0 := hide hm0
    clear h0 hm0 hV hc
    go_wp2
    go_ret
    exact ⟨⟨none, 0, ret_sl HM0.out.symm, by rw [HM0.out]; exact Nat.le_refl _, by rw [H0.out]; exact Strs.nil _ _ _⟩, hb2⟩
  | true =>
    have hLV : Dg.leavesOf l = L := by rw [← HL7.out]; unfold Dg.leavesC; rw [if_pos hV]
    have HLV := hide hLV
    clear hLV hV
    have hr2 := hS2.row
    clear hS2
    go_wp2
    clear hc
    go_loopw [3, 4] (fun v iv wr => ∃ k : Nat, k ≤ n ∧ iv = .int .i64 (k : Int) ∧ Below w.heap.size w wr ∧ wr.heap[w.heap.size]? = some (.cells #[.slice A n c] 24 (0, 0)) ∧ OwnS wr (w.heap.size + 1) v (Dg.leavesOf (l.take k))) (fun _ iv _ => n - (intOf iv).toNat)
    case atStart => exact ⟨0, by omega, rfl, hb2, hr2, OwnS.nil _ _⟩
    case round =>
      clear hr2 hb2
      obtain ⟨k, hk, rfl, hb, hr, hO⟩ := hrel
      have hc := iCells0 hr
      by_cases hlt : k < n
      · have hkn : (k : Int) < (n : Int) := by omega
        have hk0 : (0 : Int) ≤ (k : Int) := by omega
        have hkl : k < l.length := by rw [HL.out]; exact hlt
        have hIr := HI.out.below hb
        obtain ⟨b, off, rfl⟩ := hIr.some hkl
        obtain ⟨x, hx⟩ : ∃ x, l[k] = x := ⟨_, rfl⟩
        obtain ⟨_, p0, p1, p2, p3, p4, p5, p6⟩ := hIr.cells hkl x hx
        have hsn := leaves_snoc l k hkl
        rw [hx] at hsn
        have hln : (Dg.leavesOf (l.take k)).length ≤ 1048576 := by
          rw [Dg.leaves_len]
          exact Nat.le_trans List.countP_le_length (by rw [List.length_take]; omega)
        have HX := hide hx; have HSN := hide hsn; have HLN := hide hln
        clear hx hIr hsn hln
        have hx2 := Below.news (Below.refl wr.heap.size wr) (.cells #[.int .i64 x.kind, .string x.id, .string x.parent, .string x.number, .string x.north, .string x.south, .bool x.gone] 31)
        have hrx := heap_alloc_new wr (.cells #[.int .i64 x.kind, .string x.id, .string x.parent, .string x.number, .string x.north, .string x.south, .bool x.gone] 31)
        have hr1 := iNext hr hx2
        have hO1 := OwnS.below hO hx2
        have hb1 := bnext hb hx2
        go_upto_region 8 with (fail)
        clear hO hr hb hc p0 p1 p2 p3 p4 p5 p6 hx2
        generalize wr.alloc (.cells #[.int .i64 x.kind, .string x.id, .string x.parent, .string x.number, .string x.north, .string x.south, .bool x.gone] 31) = w3 at *
        generalize wr.heap.size = bx at *
        obtain ⟨c0, c1, c2, c3, c4, c5, c6⟩ := iCells hrx
        cases hg : x.gone with
        | true =>
          rw [hg] at c6 HSN
          clear hg
          go_wp2
          go_roundw
          case rel => exact ⟨k + 1, by omega, by go_num, hb1, hr1, by rw [HSN.out, if_pos rfl, List.append_nil]; exact hO1⟩
          case measure => simp [intOf]; omega
        | false =>
          rw [hg] at c6 HSN
          have hsz : ∀ s ∈ leafS x, s.size ≤ 1048576 := leafS_size (by decide) (by rw [← HX.out]; exact HZ.out _ (List.getElem_mem hkl))
          go_wp2_with fail
          obtain ⟨K, hK⟩ : ∃ K, Dg.leafI x = K := ⟨_, rfl⟩
          have hrl := rleaf_of x hsz w3 K hK
          rw [hg] at hrl
          refine hrl.mono ?_
          rintro e w4 ⟨rfl, hx4⟩
          have hr4 := iNext hr1 hx4
          have hO4 := OwnS.below hO1 hx4
          have hb4 := bnext hb1 hx4
          have HK := hide hK
          clear hr1 hO1 hb1 hx4 hrl hsz hg hrx c0 c1 c2 c3 c4 c5 c6 hK
          have LITX := hide (Below.news (Below.refl w4.heap.size w4) (.cells #[.string K] 9))
          have Strs1 : Hid (∀ (j : Nat) s, [K][j]? = some s → (w4.alloc (.cells #[.string K] 9)).cell? ((⟨w4.heap.size, 0, none⟩ : Addr).add j) = some (.string s)) := fun j s hj => by
            rw [addr_off, cell_of_row _ _ _ _ _ (0, 0) (heap_alloc_new w4 _), Nat.zero_add, ← Array.getElem?_toList]
            have h9 : ([K].map Value.string)[j]? = some (.string s) := by rw [List.getElem?_map, hj]; rfl
            exact h9
          have HB1 := hide (show w.heap.size + 1 ≤ w4.heap.size by have := lt_of_block hr4; omega)
          have HBW := hide hb4
          go_wp2_with (at_builtin; refine step_ag rfl (.tmp 24) (.tmp 27) rfl (w.heap.size + 1) _ (Dg.leavesOf (l.take k)) [K] rfl (OwnS.below hO4 LITX.out) ⟨w4.heap.size, 0, none⟩ 1 1 rfl rfl (Strs1.out) (by have := HLN.out; omega) (Nat.le_trans HB1.out LITX.out.size) ?_; intro v8 u8 hO8 hg8 hat8)
          have hb8 := grown_up (bnext HBW.out LITX.out) hg8 (fun g hg => by have := (OwnV.lt hO4 hg).1; omega)
          have hr8 := grown_row hg8 (iNext hr4 LITX.out) (fun g hg => by have := (OwnV.lt hO4 hg).1; omega)
          go_roundw
          case rel => exact ⟨k + 1, by omega, by go_num, hb8, hr8, by rw [HSN.out, if_neg (by decide), HK.out]; exact hO8⟩
          case measure => simp [intOf]; omega
      · obtain rfl : k = n := by omega
        have HE := hide (show Dg.leavesOf (l.take k) = L by rw [← HL.out, List.take_length, HLV.out])
        rw [HE.out] at hO
        obtain ⟨A', c', rfl, hcc, hS⟩ := hO.strs
        rw [HM.out] at hcc
        have HCC := hide hcc
        clear hcc
        go_wp2
        go_ret
        exact ⟨⟨A', c', ret_sl HM.out, HCC.out, hS⟩, hb⟩
end Go.Proofs.YtpldhempbdionaaGreatDoor
/- Text, Below, Under and Digest of the reference. No conditions but those that each theorem states. -/
namespace Go.Proofs.YtpldhempbdionaaGreatDoor
open Go Go.RowKit Go.Sort Go.Maps
set_option maxRecDepth 100000 in
set_option maxHeartbeats 8000000 in
theorem rtext_of (l : List Dg.It) (A : Option Addr) (n c : Nat) (hl : l.length = n) (hw : ∀ x ∈ l, ItW x) (hn : n ≤ 10000) (w : World) (hI : Its w w.heap.size A l) (hz : ∀ x ∈ l, ∀ s ∈ Dg.fieldsI x, s.size ≤ 10000) (S : ByteArray) (E : Int) (hS : Dg.textC l = (S, E)) :
    Calls Tryz.prog 23 #[.agg #[.slice A n c]] w fun e w' => e = .returned (.tuple #[.string S, .int .i64 E]) ∧ Below w.heap.size w w' := by
  have hx1 := Below.news (Below.refl w.heap.size w) (.cells #[.slice A n c] 24)
  have hS1 : CR w.heap.size A n c l (w.alloc (.cells #[.slice A n c] 24)) := ⟨heap_alloc_new w _, hI.keep hx1⟩
  have HL := hide hl; have HW := hide hw; have HZ := hide hz; have HS := hide hS
  clear hl hw hz hS hI
  go_enter Tryz.func23, Tryz.ntmps23
  go_wp2_with fail
  generalize w.alloc (.cells #[.slice A n c] 24) = w1 at *
  obtain ⟨V, hV⟩ : ∃ V, Dg.validC l = V := ⟨_, rfl⟩
  refine (rvalidC_of l A n c HL.out HW.out (by omega) w1 hS1.its V hV).mono ?_
  rintro e w2 ⟨rfl, hx2⟩
  have hS2 := hS1.below hx2
  have hb2 := bnext hx1 hx2
  clear hS1 hx1 hx2
  have hq := HS.out
  unfold Dg.textC at hq
  rw [hV] at hq
  cases V with
  | false =>
    rw [if_neg Bool.false_ne_true] at hq
    injection hq with h1 h2
    unfold Dg.nil8 at h1
    subst h1 h2
    clear hV HS
    go_wp2
    go_ret2
    exact ⟨rfl, hb2⟩
  | true =>
    rw [if_pos rfl] at hq
    have HQ := hide hq
    clear hq hV HS
    go_wp2
    go_loopw [4, 5] (fun ov iv wr => ∃ (k : Nat) (o : ByteArray), k ≤ n ∧ iv = .int .i64 (k : Int) ∧ ov = .string o ∧ Hid (Dg.L o = Dg.textL (l.take k)) ∧ CR w.heap.size A n c l wr ∧ Below w.heap.size w wr) (fun _ iv _ => n - (intOf iv).toNat)
    case atStart => exact ⟨0, ⟨#[]⟩, by omega, rfl, rfl, by show Dg.L _ = _; rw [List.take_zero]; rfl, hS2, hb2⟩
    case round =>
      clear hS2 hb2
      obtain ⟨k, o, hk, rfl, rfl, ho, hS, hb⟩ := hrel
      have hc1 := iCells0 hS.row
      have hoz : o.size ≤ 1201000000 := by
        rw [← Dg.len_L, ho.out]
        have h1 := text_len2 (l.take k) (fun x hx => HZ.out x (List.mem_of_mem_take hx))
        have h2 : (l.take k).length ≤ 10000 := by rw [List.length_take]; omega
        have h3 : (l.take k).length * 120100 ≤ 10000 * 120100 := Nat.mul_le_mul_right _ h2
        omega
      by_cases hlt : k < n
      · have hkl : k < l.length := by rw [HL.out]; exact hlt
        have hkn : (k : Int) < (n : Int) := by omega
        have hk0 : (0 : Int) ≤ (k : Int) := by omega
        obtain ⟨b, off, rfl⟩ := hS.its.some hkl
        obtain ⟨x, hx⟩ : ∃ x, l[k] = x := ⟨_, rfl⟩
        obtain ⟨_, p0, p1, p2, p3, p4, p5, p6⟩ := hS.its.cells hkl x hx
        have hsn := textL_snoc l k hkl
        rw [hx] at hsn
        have hzx := HZ.out _ (List.getElem_mem hkl)
        rw [hx] at hzx
        obtain ⟨R, hR⟩ : ∃ R, Dg.B (Dg.lineL x) = R := ⟨_, rfl⟩
        have hRz : R.size ≤ 120100 := by rw [← hR]; exact line_len2 x hzx
        have HSN := hide hsn; have HZX := hide hzx; have HR := hide hR
        clear hx hsn hzx hR
        go_wp2_with fail
        refine (rline_of x HZX.out R HR.out wr).mono ?_
        rintro e w4 ⟨rfl, hx4⟩
        have hS4 := hS.below hx4
        have hb4 := bnext hb hx4
        clear hS hb hx4 hc1 p0 p1 p2 p3 p4 p5 p6
        go_wp2
        go_roundw
        case rel => exact ⟨k + 1, o ++ R, by omega, by go_num, rfl, by show Dg.L _ = _; rw [Dg.L_append, ho.out, HSN.out, ← HR.out, Dg.L_B], hS4, hb4⟩
        case measure => simp [intOf]; omega
      · obtain rfl : k = n := by omega
        have h9 := ho.out
        rw [← HL.out, List.take_length] at h9
        have hq := HQ.out
        have hlen : (Dg.textL l).length = o.size := by rw [← h9, Dg.len_L]
        rw [hlen, ← h9, Dg.B_L] at hq
        have HQ2 := hide hq
        clear h9 hlen hq HQ
        by_cases hbig : 1000000 < o.size
        · have hbi : (1000000 : Int) < (o.size : Int) := by omega
          have hq := HQ2.out
          rw [if_pos hbig] at hq
          injection hq with h1 h2
          unfold Dg.nil8 at h1
          subst h1 h2
          clear HQ2
          go_wp2
          go_ret2
          exact ⟨rfl, hb⟩
        · have hbi : ¬ (1000000 : Int) < (o.size : Int) := by omega
          have hq := HQ2.out
          rw [if_neg hbig] at hq
          injection hq with h1 h2
          subst h1 h2
          clear HQ2
          go_wp2
          go_ret2
          exact ⟨rfl, hb⟩
theorem below_absent {l : List Dg.It} (hv : Dg.validC l = true) {id : ByteArray} (h : ∀ x ∈ l, x.id ≠ id) : belowC l id = [] := by
  obtain ⟨s, hw, _⟩ := Dg.valid_walk hv
  unfold belowC
  rw [if_pos hv]
  unfold belowF
  rw [List.map_eq_nil_iff, List.filter_eq_nil_iff]
  intro p hp hin
  obtain ⟨k, hk, e⟩ := List.getElem_of_mem hp
  rw [List.getElem_zip] at e
  rw [List.length_zip] at hk
  have hkl : k < l.length := by omega
  obtain ⟨o, ho, hmem, _⟩ := Dg.visit_at (Nat.le_refl _) hw hkl
  have ho2 : (Dg.visits l)[k]'(by omega) = o := by
    rw [List.getElem?_eq_getElem (by omega)] at ho
    exact Option.some.inj ho
  rw [← e] at hin
  simp only [ho2] at hin
  obtain ⟨x, hx, hxe⟩ := List.mem_map.1 (hmem id ((Dg.inB_iff _ _).1 hin))
  exact h x (List.mem_of_mem_take hx) hxe
theorem findX_cases (l : List Dg.It) (id : ByteArray) : (findX l id = -1 ∧ ∀ x ∈ l, x.id ≠ id) ∨ ∃ (k : Nat) (hk : k < l.length), findX l id = (k : Int) ∧ l[k].id = id := by
  unfold findX
  cases h : l.findIdx? (fun x => decide (x.id = id)) with
  | none =>
    refine Or.inl ⟨rfl, fun x hx => ?_⟩
    have := List.findIdx?_eq_none_iff.1 h x hx
    simpa using this
  | some k =>
    obtain ⟨hk, h1, _⟩ := List.findIdx?_eq_some_iff_getElem.1 h
    exact Or.inr ⟨k, hk, rfl, by simpa using h1⟩
theorem inB_rev (o : List ByteArray) (s : ByteArray) : Dg.inB o.reverse s = Dg.inB o s := by
  unfold Dg.inB
  rw [List.any_reverse]
set_option maxRecDepth 100000 in
set_option maxHeartbeats 8000000 in
theorem rbelow_of (l : List Dg.It) (A : Option Addr) (n c : Nat) (hl : l.length = n) (hw : ∀ x ∈ l, ItW x) (hn : n ≤ 1048576) (id : ByteArray) (w : World) (hI : Its w w.heap.size A l) (L : List ByteArray) (hL : belowC l id = L) (m : Nat) (hm : L.length = m) :
    Calls Tryz.prog 29 #[.agg #[.slice A n c], .string id] w fun e w' => (∃ A' c', e = .returned (.slice A' m c') ∧ m ≤ c' ∧ Strs w' w'.heap.size A' L) ∧ Below w.heap.size w w' := by
  have hx1 := Below.news (Below.refl w.heap.size w) (.cells #[.slice A n c] 24)
  have hS1 : CR w.heap.size A n c l (w.alloc (.cells #[.slice A n c] 24)) := ⟨heap_alloc_new w _, hI.keep hx1⟩
  have HI := hide hI
  have HL := hide hl; have HW := hide hw; have HL7 := hide hL; have HM := hide hm
  clear hl hw hL hm hI
  go_enter Tryz.func29, Tryz.ntmps29
  go_wp2_with fail
  generalize w.alloc (.cells #[.slice A n c] 24) = w1 at *
  obtain ⟨V, hV⟩ : ∃ V, Dg.validC l = V := ⟨_, rfl⟩
  refine (rvalidC_of l A n c HL.out HW.out (by omega) w1 hS1.its V hV).mono ?_
  rintro e w2 ⟨rfl, hx2⟩
  have hS2 := hS1.below hx2
  have hb2 := bnext hx1 hx2
  clear hS1 hx1 hx2
  have hnil : ∀ (wr : World), belowC l id = [] → ∃ A' c', Ending.returned (.slice none 0 0) = .returned (.slice A' m c') ∧ m ≤ c' ∧ Strs wr wr.heap.size A' L := fun wr h => by
    have h1 : L = [] := by rw [← HL7.out, h]
    have h2 : m = 0 := by rw [← HM.out, h1]; rfl
    exact ⟨none, 0, ret_sl h2.symm, by omega, by rw [h1]; exact Strs.nil _ _ _⟩
  have HN := hide hnil
  clear hnil
  have hc1 := iCells0 hS2.row
  cases V with
  | false =>
    have h0 : belowC l id = [] := below_none hV id
    have H0 := hide h0
    clear hV h0 hc1
    go_wp2
    go_ret
    exact ⟨HN.out _ H0.out, hb2⟩
  | true =>
    have HV := hide hV
    clear hV
    rcases findX_cases l id with ⟨hf, hab⟩ | ⟨k0, hk0, hf, hid⟩
    · have H0 := hide (below_absent HV.out hab)
      have HF := hide hf
      clear hf hab
      go_wp2_with fail
      refine (rfind_of l A n c HL.out (by omega) id w2 hS2.its (-1) HF.out).mono ?_
      rintro e w3 ⟨rfl, hx3⟩
      have hb3 := bnext hb2 hx3
      clear hS2 hb2 hx3 hc1
      go_wp2
      go_ret
      exact ⟨HN.out _ H0.out, hb3⟩
    · have HF := hide hf
      clear hf hid hk0
      go_wp2_with fail
      refine (rfind_of l A n c HL.out (by omega) id w2 hS2.its (k0 : Int) HF.out).mono ?_
      rintro e w3 ⟨rfl, hx3⟩
      have hS3 := hS2.below hx3
      have hb3 := bnext hb2 hx3
      have hk0' : ¬ ((k0 : Int) < 0) := by omega
      clear hS2 hb2 hx3 hc1 HN
      obtain ⟨s, hwk, _⟩ := Dg.valid_walk HV.out
      have hvl := visits_le l HV.out
      have HWK := hide hwk; have HVL := hide hvl
      clear hwk hvl
      have hr3 := hS3.row
      have hI3 := hS3.its
      go_wp2
      go_loopw [5, 6] (fun v iv wr => ∃ k : Nat, k ≤ n ∧ iv = .int .i64 (k : Int) ∧ Below w.heap.size w wr ∧ CR w.heap.size A n c l wr ∧ OwnS wr (w.heap.size + 1) v (belowF l id ((Dg.visits l).take k))) (fun _ iv _ => n - (intOf iv).toNat)
      case atStart => exact ⟨0, by omega, rfl, hb3, hS3, OwnS.nil _ _⟩
      case round =>
        clear hr3 hb3 hS3 hI3 hk0'
        obtain ⟨k, hk, rfl, hb, hS, hO⟩ := hrel
        have hc1 := iCells0 hS.row
        by_cases hlt : k < n
        · have hkn : (k : Int) < (n : Int) := by omega
          have hk0 : (0 : Int) ≤ (k : Int) := by omega
          have hkl : k < l.length := by rw [HL.out]; exact hlt
          have hkv : k < (Dg.visits l).length := by rw [HVL.out]; exact hkl
          obtain ⟨o, ho⟩ : ∃ o, (Dg.visits l)[k]? = some o := ⟨_, List.getElem?_eq_getElem hkv⟩
          have hol := op_le (Nat.le_refl _) HWK.out hkl ho
          obtain ⟨q, hq⟩ : ∃ q, o.length = q := ⟨_, rfl⟩
          have hsn : belowF l id ((Dg.visits l).take (k + 1)) = if Dg.inB o id = true then belowF l id ((Dg.visits l).take k) ++ [l[k].id] else belowF l id ((Dg.visits l).take k) := by
            have e1 : (Dg.visits l).take (k + 1) = (Dg.visits l).take k ++ [o] := by
              rw [List.take_succ_eq_append_getElem hkv]
              rw [List.getElem?_eq_getElem hkv] at ho
              rw [Option.some.inj ho]
            have e2 : ((Dg.visits l).take k).length = k := by rw [List.length_take]; omega
            have h9 := belowF_snoc l id ((Dg.visits l).take k) o (by rw [e2]; exact hkl)
            rw [e1, h9]
            simp only [e2]
          have hln : (belowF l id ((Dg.visits l).take k)).length ≤ 1048576 := Nat.le_trans (belowF_len l id _) (by rw [HL.out]; exact hn)
          have HSN := hide hsn; have HO := hide ho; have HQ := hide hq; have HLN := hide hln
          have hqk : q ≤ n := by omega
          clear hsn ho hq hln hol hkv
          go_wp2_with fail
          refine (rchainC_of l A n c HL.out (by omega) wr hS.its l.length (Nat.le_refl _) (Dg.visits l) s HWK.out k hkl o HO.out q HQ.out hqk).mono ?_
          rintro e w4 ⟨⟨A4, c4, rfl, hs4⟩, hx4⟩
          have hS4 := hS.below hx4
          have hO4 := OwnS.below hO hx4
          have hb4 := bnext hb hx4
          clear hS hO hb hx4 hc1
          obtain ⟨b, off, rfl⟩ := hS4.its.some hkl
          obtain ⟨x, hx⟩ : ∃ x, l[k] = x := ⟨_, rfl⟩
          obtain ⟨_, p0, p1, p2, p3, p4, p5, p6⟩ := hS4.its.cells hkl x hx
          have hsn := HSN.out
          rw [hx] at hsn
          have HSN2 := hide hsn
          have hc1 := iCells0 hS4.row
          clear hsn HSN hx p0 p2 p3 p4 p5 p6
          obtain ⟨R, hR⟩ : ∃ R, Dg.inB o id = R := ⟨_, rfl⟩
          go_wp2_with fail
          refine (rin_of o.reverse A4 q c4 (by rw [List.length_reverse]; exact HQ.out) (by omega) id w4 hs4 R (by rw [inB_rev]; exact hR)).mono ?_
          rintro e w5 ⟨rfl, rfl⟩
          have hsn := HSN2.out
          rw [hR] at hsn
          have HSN3 := hide hsn
          clear hsn HSN2 hs4 hR
          cases R with
          | false =>
            go_wp2
            go_roundw
            case rel => exact ⟨k + 1, by omega, by go_num, hb4, hS4, by rw [HSN3.out, if_neg (by decide)]; exact hO4⟩
            case measure => simp [intOf]; omega
          | true =>
            have LITX := hide (Below.news (Below.refl w5.heap.size w5) (.cells #[.string x.id] 9))
            have Strs1 : Hid (∀ (j : Nat) s, [x.id][j]? = some s → (w5.alloc (.cells #[.string x.id] 9)).cell? ((⟨w5.heap.size, 0, none⟩ : Addr).add j) = some (.string s)) := fun j s hj => by
              rw [addr_off, cell_of_row _ _ _ _ _ (0, 0) (heap_alloc_new w5 _), Nat.zero_add, ← Array.getElem?_toList]
              have h9 : ([x.id].map Value.string)[j]? = some (.string s) := by rw [List.getElem?_map, hj]; rfl
              exact h9
            have HB1 := hide (show w.heap.size + 1 ≤ w5.heap.size by have := lt_of_block hS4.row; omega)
            have HBW := hide hb4
            go_wp2_with (at_builtin; refine step_ag rfl (.tmp 28) (.tmp 35) rfl (w.heap.size + 1) _ (belowF l id ((Dg.visits l).take k)) [x.id] rfl (OwnS.below hO4 LITX.out) ⟨w5.heap.size, 0, none⟩ 1 1 rfl rfl (Strs1.out) (by have := HLN.out; omega) (Nat.le_trans HB1.out LITX.out.size) ?_; intro v8 u8 hO8 hg8 hat8)
            have hb8 := grown_up (bnext HBW.out LITX.out) hg8 (fun g hg => by have := (OwnV.lt hO4 hg).1; omega)
            have hr8 := grown_row hg8 (iNext hS4.row LITX.out) (fun g hg => by have := (OwnV.lt hO4 hg).1; omega)
            have hI8 := (HI.out.below hb8).more hb8.size
            go_roundw
            case rel => exact ⟨k + 1, by omega, by go_num, hb8, ⟨hr8, hI8⟩, by rw [HSN3.out, if_pos trivial]; exact hO8⟩
            case measure => simp [intOf]; omega
        · obtain rfl : k = n := by omega
          have HE := hide (show belowF l id ((Dg.visits l).take k) = L by rw [← HL7.out, ← HL.out, ← HVL.out, List.take_length]; unfold belowC; rw [if_pos HV.out])
          rw [HE.out] at hO
          obtain ⟨A', c', rfl, hcc, hS9⟩ := hO.strs
          rw [HM.out] at hcc
          have HCC := hide hcc
          clear hcc
          go_wp2
          go_ret
          exact ⟨⟨A', c', ret_sl HM.out, HCC.out, hS9⟩, hb⟩
end Go.Proofs.YtpldhempbdionaaGreatDoor
/- Under and Digest of the reference. No conditions but those that each theorem states. -/
namespace Go.Proofs.YtpldhempbdionaaGreatDoor
open Go Go.RowKit Go.Sort Go.Maps
theorem under_absent {l : List Dg.It} {id : ByteArray} (h : ∀ x ∈ l, x.id ≠ id) (dv : ByteArray) : underC l id dv = false := by
  unfold underC underF
  rw [fold_one (fun p : List ByteArray × Dg.It => p.2.id = id) (fun p => (decide (dv = Dg.nil8) || Dg.inB p.1 dv)) ((Dg.visits l).zip l) false (fun z hz => h z.2 (List.of_mem_zip hz).2), Bool.and_false]
theorem under_invalid {l : List Dg.It} (h : Dg.validC l = false) (id dv : ByteArray) : underC l id dv = false := by
  unfold underC
  rw [h, Bool.false_and]
set_option maxRecDepth 100000 in
set_option maxHeartbeats 8000000 in
theorem runder_of (l : List Dg.It) (A : Option Addr) (n c : Nat) (hl : l.length = n) (hw : ∀ x ∈ l, ItW x) (hn : n ≤ 1048576) (id dv : ByteArray) (w : World) (hI : Its w w.heap.size A l) (U : Bool) (hU : underC l id dv = U) :
    Calls Tryz.prog 30 #[.agg #[.slice A n c], .string id, .string dv] w fun e w' => e = .returned (.bool U) ∧ Below w.heap.size w w' := by
  have hx1 := Below.news (Below.refl w.heap.size w) (.cells #[.slice A n c] 24)
  have hS1 : CR w.heap.size A n c l (w.alloc (.cells #[.slice A n c] 24)) := ⟨heap_alloc_new w _, hI.keep hx1⟩
  have HL := hide hl; have HW := hide hw; have HU := hide hU
  clear hl hw hU hI
  obtain ⟨V, hV⟩ : ∃ V, Dg.validC l = V := ⟨_, rfl⟩
  obtain ⟨K, hK⟩ : ∃ K, findX l id = K := ⟨_, rfl⟩
  have HV := hide hV; have HK := hide hK
  clear hV hK
  go_enter Tryz.func30, Tryz.ntmps30
  go_wp2_with fail
  generalize w.alloc (.cells #[.slice A n c] 24) = w1 at *
  refine (rfind_of l A n c HL.out (by omega) id w1 hS1.its K HK.out).mono ?_
  rintro e w2 ⟨rfl, hx2⟩
  have hS2 := hS1.below hx2
  have hb2 := bnext hx1 hx2
  clear hS1 hx1 hx2
  have hc1 := iCells0 hS2.row
  go_wp2_with fail
  refine (rvalidC_of l A n c HL.out HW.out (by omega) w2 hS2.its V HV.out).mono ?_
  rintro e w3 ⟨rfl, hx3⟩
  have hS3 := hS2.below hx3
  have hb3 := bnext hb2 hx3
  clear hS2 hb2 hx3 hc1
  have hc1 := iCells0 hS3.row
  cases V with
  | false =>
    have hu : U = false := by rw [← HU.out]; exact under_invalid HV.out id dv
    subst hu
    go_wp2
    go_ret
    exact ⟨rfl, hb3⟩
  | true =>
    rcases findX_cases l id with ⟨hf, hab⟩ | ⟨k0, hk0, hf, hid⟩
    · have hu : U = false := by rw [← HU.out]; exact under_absent hab dv
      have hk : K = -1 := by rw [← HK.out]; exact hf
      subst hu hk
      clear hf hab
      go_wp2
      go_ret
      exact ⟨rfl, hb3⟩
    · have hk : K = (k0 : Int) := by rw [← HK.out]; exact hf
      subst hk
      obtain ⟨o, ho, hun⟩ := under_at HV.out hk0 dv
      rw [hid, HU.out] at hun
      obtain ⟨s, hwk, _⟩ := Dg.valid_walk HV.out
      have hol := op_le (Nat.le_refl _) hwk hk0 ho
      obtain ⟨q, hq⟩ : ∃ q, o.length = q := ⟨_, rfl⟩
      have hqn : q ≤ n := by have := HL.out; omega
      have hki : ¬ ((k0 : Int) < 0) := by omega
      have HWK := hide hwk; have HO := hide ho; have HQ := hide hq; have HUN := hide hun; have HK0 := hide hk0
      clear hf hid hwk ho hq hun hol hk0
      by_cases hd : dv = Dg.nil8
      · have he : dv.toList.isEmpty = true := emp_yes (by rw [hd]; rfl)
        have hu : U = true := by rw [HUN.out, decide_eq_true hd, Bool.true_or]
        subst hu
        clear hd HUN HU
        go_wp2
        go_ret
        exact ⟨rfl, hb3⟩
      · have he : dv.toList.isEmpty = false := emp_no (fun h => hd (by apply Dg.L_inj; rw [h]; rfl))
        have hu : Dg.inB o dv = U := by rw [HUN.out, decide_eq_false hd, Bool.false_or]
        have HU2 := hide hu
        clear hd hu HUN HU
        go_wp2_with fail
        refine (rchainC_of l A n c HL.out (by omega) w3 hS3.its l.length (Nat.le_refl _) (Dg.visits l) s HWK.out k0 HK0.out o HO.out q HQ.out hqn).mono ?_
        rintro e w4 ⟨⟨A4, c4, rfl, hs4⟩, hx4⟩
        have hb4 := bnext hb3 hx4
        clear hS3 hb3 hx4 hc1
        go_wp2_with fail
        refine (rin_of o.reverse A4 q c4 (by rw [List.length_reverse]; exact HQ.out) (by omega) dv w4 hs4 U (by rw [inB_rev]; exact HU2.out)).mono ?_
        rintro e w5 ⟨rfl, rfl⟩
        go_wp2
        go_ret
        exact ⟨rfl, hb4⟩
set_option maxRecDepth 100000 in
set_option maxHeartbeats 8000000 in
theorem rdigest_of (l : List Dg.It) (A : Option Addr) (n c : Nat) (hl : l.length = n) (hw : ∀ x ∈ l, ItW x) (hn : n ≤ 10000) (w : World) (hI : Its w w.heap.size A l) (hz : ∀ x ∈ l, ∀ s ∈ Dg.fieldsI x, s.size ≤ 10000) (hj : (Dg.joinedL (Dg.fieldsC l)).length ≤ 1099511627776) (D : ByteArray) (hD : Dg.digestC l = D) :
    Calls Tryz.prog 31 #[.agg #[.slice A n c]] w fun e w' => e = .returned (.string D) ∧ Below w.heap.size w w' := by
  have hx1 := Below.news (Below.refl w.heap.size w) (.cells #[.slice A n c] 24)
  have hS1 : CR w.heap.size A n c l (w.alloc (.cells #[.slice A n c] 24)) := ⟨heap_alloc_new w _, hI.keep hx1⟩
  have HL := hide hl; have HW := hide hw; have HD := hide hD; have HZ := hide hz; have HJ := hide hj
  clear hl hw hD hI hz hj
  obtain ⟨V, hV⟩ : ∃ V, Dg.validC l = V := ⟨_, rfl⟩
  have HV := hide hV
  clear hV
  go_enter Tryz.func31, Tryz.ntmps31
  go_wp2_with fail
  generalize w.alloc (.cells #[.slice A n c] 24) = w1 at *
  refine (rvalidC_of l A n c HL.out HW.out (by omega) w1 hS1.its V HV.out).mono ?_
  rintro e w2 ⟨rfl, hx2⟩
  have hS2 := hS1.below hx2
  have hb2 := bnext hx1 hx2
  clear hS1 hx1 hx2
  have hc1 := iCells0 hS2.row
  have hd := HD.out
  unfold Dg.digestC at hd
  rw [HV.out] at hd
  cases V with
  | false =>
    rw [if_neg Bool.false_ne_true] at hd
    unfold Dg.nil8 at hd
    subst hd
    clear HD
    go_wp2
    go_ret
    exact ⟨rfl, hb2⟩
  | true =>
    rw [if_pos rfl] at hd
    obtain ⟨m, hm⟩ : ∃ m, (Dg.fieldsC l).length = m := ⟨_, rfl⟩
    have hmz : m ≤ 1048576 := by rw [← hm, fieldsC_len]; have := HL.out; omega
    have HD2 := hide hd; have HM := hide hm
    clear hd hm HD
    go_wp2_with fail
    refine (fields_of l A n c HL.out (by omega) w2 hS2.its (Dg.fieldsC l) rfl m HM.out).mono ?_
    rintro e w3 ⟨⟨A3, c3, rfl, hs3⟩, hx3⟩
    have hb3 := bnext hb2 hx3
    clear hS2 hb2 hx3 hc1
    go_wp2_with fail
    have hq := rlist_any A3 c3 (Dg.fieldsC l) w3 (by rw [HM.out]; exact hmz) HJ.out (fieldsC_size (fun x hx s hs => Nat.le_trans (HZ.out x hx s hs) (by decide))) hs3
    rw [HM.out, HD2.out] at hq
    refine hq.mono ?_
    rintro e w4 ⟨rfl, hx4⟩
    have hb4 := bnext hb3 hx4
    clear hq
    go_wp2
    go_ret
    exact ⟨rfl, hb4⟩
end Go.Proofs.YtpldhempbdionaaGreatDoor
/- The text of a valid code is parsed as the code, in plain Lean. No program in sight. -/
namespace Go.Proofs.YtpldhempbdionaaGreatDoor.Dg
open Go
def dashL (w : List UInt8) : ByteArray := if w = [45] then nil8 else B w
/-- A line of a code's text, read. -/
def parseLineP (line : List UInt8) : It :=
  let w := untilP [32] line
  let i := untilP [32] w.2
  let p := untilP [32] i.2
  let n := untilP [32, 10] p.2
  if w.1 = wDiv then ⟨1, B i.1, dashL p.1, dashL n.1, nil8, nil8, false⟩
  else ⟨2, B i.1, dashL p.1, dashL n.1, B (quoteP n.2).1, B (quoteP (quoteP n.2).2).1, decide (w.1 = wRep)⟩
/-- The lines of a text, each with its line feed. -/
def linesP : List UInt8 → List (List UInt8)
  | [] => []
  | c :: r => if c = 10 then [10] :: linesP r else match linesP r with | [] => [[c]] | l :: ls => (c :: l) :: ls
theorem linesP_at (w r : List UInt8) (hw : ∀ d ∈ w, d ≠ 10) : linesP (w ++ 10 :: r) = (w ++ [10]) :: linesP r := by
  induction w with
  | nil => rw [List.nil_append, linesP, if_pos rfl]; rfl
  | cons d w ih => rw [List.cons_append, linesP, if_neg (hw d (List.mem_cons_self ..)), ih (fun e he => hw e (List.mem_cons_of_mem _ he))]; rfl
theorem letter_ok (c : UInt8) (h : letterB c = true) : c ≠ 32 ∧ c ≠ 10 ∧ c ≠ 45 := by
  refine ⟨fun e => ?_, fun e => ?_, fun e => ?_⟩ <;> (subst e; exact absurd h (by decide))
theorem digit_ok (c : UInt8) (h : digitB c = true) : c ≠ 32 ∧ c ≠ 10 ∧ c ≠ 45 := by
  refine ⟨fun e => ?_, fun e => ?_, fun e => ?_⟩ <;> (subst e; exact absurd h (by decide))
theorem num_ok (c : UInt8) (h : numC c = true) : c ≠ 32 ∧ c ≠ 10 ∧ c ≠ 45 := by
  refine ⟨fun e => ?_, fun e => ?_, fun e => ?_⟩ <;> (subst e; exact absurd h (by decide))
theorem name_ok {s : ByteArray} (h : isNameB s = true) : (∀ c ∈ L s, c ≠ 32 ∧ c ≠ 10 ∧ c ≠ 45) ∧ L s ≠ [] := by
  unfold isNameB at h
  rw [Bool.and_eq_true] at h
  have h1 := h.1
  cases hl : L s with
  | nil => rw [hl] at h1; cases h1
  | cons a r =>
    rw [hl] at h1
    unfold nameL at h1
    rw [Bool.and_eq_true, List.all_eq_true] at h1
    refine ⟨fun c hc => ?_, by simp⟩
    rcases List.mem_cons.1 hc with rfl | hc
    · exact letter_ok _ h1.1
    · have := h1.2 c hc
      rw [Bool.or_eq_true] at this
      rcases this with h2 | h2
      · exact letter_ok _ h2
      · exact digit_ok _ h2
theorem numb_ok {s : ByteArray} (h : isNumB s = true) : ∀ c ∈ L s, c ≠ 32 ∧ c ≠ 10 ∧ c ≠ 45 := fun c hc => by
  unfold isNumB at h
  rw [Bool.and_eq_true, List.all_eq_true] at h
  exact num_ok c (h.2 c hc)
theorem or_ok {s : ByteArray} (h : ∀ c ∈ L s, c ≠ 32 ∧ c ≠ 10 ∧ c ≠ 45) : (∀ c ∈ orL (L s), c ≠ 32 ∧ c ≠ 10) ∧ dashL (orL (L s)) = s := by
  unfold orL dashL
  by_cases hn : L s = []
  · rw [if_pos hn, if_pos rfl]
    refine ⟨fun c hc => by rw [List.mem_singleton.1 hc]; decide, ?_⟩
    have : B (L s) = B [] := by rw [hn]
    rw [B_L] at this
    rw [this]; rfl
  · rw [if_neg hn]
    refine ⟨fun c hc => ⟨(h c hc).1, (h c hc).2.1⟩, ?_⟩
    rw [if_neg (fun e => by
      have := (h 45 (by rw [e]; exact List.mem_cons_self ..)).2.2
      exact this rfl), B_L]
theorem esc_no10 (l : List UInt8) : ∀ c ∈ escL l, c ≠ 10 := fun c hc => by
  unfold escL at hc
  obtain ⟨d, _, hd⟩ := List.mem_flatMap.1 hc
  unfold escC at hd
  split at hd
  · simp at hd; rcases hd with rfl | rfl <;> decide
  · split at hd
    · simp at hd; rcases hd with rfl | rfl <;> decide
    · split at hd
      · simp at hd; rcases hd with rfl | rfl <;> decide
      · rename_i h3
        rw [List.mem_singleton.1 hd]; exact h3
theorem quote_no10 (l : List UInt8) : ∀ c ∈ quoteL l, c ≠ 10 := fun c hc => by
  unfold quoteL at hc
  rcases List.mem_cons.1 hc with rfl | hc
  · decide
  · rcases List.mem_append.1 hc with h | h
    · exact esc_no10 l c h
    · rw [List.mem_singleton.1 h]; decide
theorem joinW_no10 : ∀ (ws : List (List UInt8)), (∀ w ∈ ws, ∀ c ∈ w, c ≠ 10) → ∀ c ∈ joinW ws, c ≠ 10
  | [], _, c, hc => by cases hc
  | [a], h, c, hc => h a (List.mem_cons_self ..) c hc
  | a :: b :: r, h, c, hc => by
    rw [joinW] at hc
    rcases List.mem_append.1 hc with h1 | h1
    · exact h a (List.mem_cons_self ..) c h1
    · rcases List.mem_cons.1 h1 with rfl | h1
      · decide
      · exact joinW_no10 (b :: r) (fun w hw => h w (List.mem_cons_of_mem _ hw)) c h1
/-- What an item of a valid code is like. -/
structure ItOk (x : It) : Prop where
  pr : properI x = true
  pa : x.parent = nil8 ∨ isNameB x.parent = true
theorem proper_id {x : It} (h : properI x = true) : isNameB x.id = true ∧ isNumB x.number = true := by
  unfold properI at h
  split at h
  · simp only [Bool.and_eq_true] at h; exact ⟨h.2.1, h.1⟩
  · split at h
    · simp only [Bool.and_eq_true] at h; exact ⟨h.2.1, h.1⟩
    · cases h
theorem nil8_L : L nil8 = [] := rfl
theorem parent_ok {x : It} (h : ItOk x) : ∀ c ∈ L x.parent, c ≠ 32 ∧ c ≠ 10 ∧ c ≠ 45 := fun c hc => by
  rcases h.pa with e | e
  · rw [e, nil8_L] at hc; cases hc
  · exact (name_ok e).1 c hc
theorem words_no10 {x : It} (h : ItOk x) : ∀ w ∈ wordsI x, ∀ c ∈ w, c ≠ 10 := fun w hw c hc => by
  obtain ⟨h1, h2⟩ := proper_id h.pr
  have i1 := fun c hc => ((name_ok h1).1 c hc).2.1
  have i2 := fun c hc => ((or_ok (parent_ok h)).1 c hc).2
  have i3 := fun c hc => ((or_ok (numb_ok h2)).1 c hc).2
  unfold wordsI at hw
  split at hw
  · simp only [List.mem_cons, List.not_mem_nil, or_false] at hw
    rcases hw with rfl | rfl | rfl | rfl
    · exact fun e => by subst e; exact absurd hc (by decide)
    · exact i1 c hc
    · exact i2 c hc
    · exact i3 c hc
  · simp only [List.mem_cons, List.not_mem_nil, or_false] at hw
    rcases hw with rfl | rfl | rfl | rfl | rfl | rfl
    · intro e; subst e; split at hc <;> exact absurd hc (by decide)
    · exact i1 c hc
    · exact i2 c hc
    · exact i3 c hc
    · exact quote_no10 _ c hc
    · exact quote_no10 _ c hc
theorem lines_text : ∀ (l : List It), (∀ x ∈ l, ItOk x) → linesP (textL l) = l.map lineL
  | [], _ => rfl
  | x :: l, h => by
    have e : textL (x :: l) = joinW (wordsI x) ++ 10 :: textL l := by unfold textL lineL; rw [List.flatMap_cons, List.append_assoc]; rfl
    rw [e, linesP_at _ _ (joinW_no10 _ (words_no10 (h x (List.mem_cons_self ..)))), lines_text l (fun y hy => h y (List.mem_cons_of_mem _ hy))]
    rfl
theorem no32 {w : List UInt8} (h : ∀ c ∈ w, c ≠ 32 ∧ c ≠ 10) : (∀ c ∈ w, [32].contains c = false) ∧ ∀ c ∈ w, [32, 10].contains c = false :=
  ⟨fun c hc => by simp [(h c hc).1], fun c hc => by simp [(h c hc).1, (h c hc).2]⟩
theorem parse_line {x : It} (h : ItOk x) : parseLineP (lineL x) = x := by
  obtain ⟨h1, h2⟩ := proper_id h.pr
  obtain ⟨p1, p2⟩ := or_ok (parent_ok h)
  obtain ⟨n1, n2⟩ := or_ok (numb_ok h2)
  have i1 : ∀ c ∈ L x.id, c ≠ 32 ∧ c ≠ 10 := fun c hc => ⟨((name_ok h1).1 c hc).1, ((name_ok h1).1 c hc).2.1⟩
  have w1 : ∀ c ∈ wDiv, c ≠ 32 ∧ c ≠ 10 := by decide
  have w2 : ∀ c ∈ wArt, c ≠ 32 ∧ c ≠ 10 := by decide
  have w3 : ∀ c ∈ wRep, c ≠ 32 ∧ c ≠ 10 := by decide
  rcases proper_kind h.pr with ⟨k1, k2, k3, k4⟩ | ⟨k1, _, _⟩
  · have hl : lineL x = wDiv ++ 32 :: (L x.id ++ 32 :: (orL (L x.parent) ++ 32 :: (orL (L x.number) ++ 10 :: []))) := by
      unfold lineL wordsI
      rw [if_pos k1]
      simp [joinW]
    unfold parseLineP
    simp only
    rw [hl, untilP_at _ _ _ _ (no32 w1).1 (by decide)]
    simp only
    rw [untilP_at _ _ _ _ (no32 i1).1 (by decide)]
    simp only
    rw [untilP_at _ _ _ _ (no32 p1).1 (by decide)]
    simp only
    rw [untilP_at _ _ _ _ (no32 n1).2 (by decide)]
    simp only
    rw [if_pos trivial, p2, n2, B_L]
    obtain ⟨a1, a2, a3, a4, a5, a6, a7⟩ := x
    simp only at k1 k2 k3 k4
    subst k1 k2 k3 k4
    rfl
  · have k0 : x.kind ≠ 1 := by rw [k1]; decide
    have hw : ∀ c ∈ (if x.gone then wRep else wArt), c ≠ 32 ∧ c ≠ 10 := by split <;> assumption
    have hd : (if x.gone then wRep else wArt) ≠ wDiv := by split <;> decide
    have hg : decide ((if x.gone then wRep else wArt) = wRep) = x.gone := by cases x.gone <;> decide
    have hl : lineL x = (if x.gone then wRep else wArt) ++ 32 :: (L x.id ++ 32 :: (orL (L x.parent) ++ 32 :: (orL (L x.number) ++ 32 :: (quoteL (L x.north) ++ 32 :: (quoteL (L x.south) ++ 10 :: []))))) := by
      unfold lineL wordsI
      rw [if_neg k0]
      simp [joinW]
    unfold parseLineP
    simp only
    rw [hl, untilP_at _ _ _ _ (no32 hw).1 (by decide)]
    simp only
    rw [untilP_at _ _ _ _ (no32 i1).1 (by decide)]
    simp only
    rw [untilP_at _ _ _ _ (no32 p1).1 (by decide)]
    simp only
    rw [untilP_at _ _ _ _ (no32 n1).2 (by decide)]
    simp only
    rw [if_neg hd, p2, n2, B_L, quoteP_at]
    simp only
    rw [quoteP_at, B_L, B_L, hg]
    obtain ⟨a1, a2, a3, a4, a5, a6, a7⟩ := x
    simp only at k1
    subst k1
    rfl
/-- What a text is parsed to, before it is compared with the text of that. -/
def parseP (t : List UInt8) : List It := (linesP t).map parseLineP
theorem valid_itok {l : List It} (h : validC l = true) : ∀ x ∈ l, ItOk x := fun x hx => by
  refine ⟨valid_proper h x hx, ?_⟩
  obtain ⟨s, hw, _⟩ := valid_walk h
  obtain ⟨k, hk, rfl⟩ := List.mem_iff_getElem.1 hx
  obtain ⟨o, _, h1, _, h2, _⟩ := visit_at (Nat.le_refl _) hw hk
  by_cases hp : l[k].parent = nil8
  · exact Or.inl hp
  · obtain ⟨y, hy, e⟩ := List.mem_map.1 (h1 _ (h2 hp))
    exact Or.inr (by rw [← e]; exact (proper_id (valid_proper h y (List.mem_of_mem_take hy))).1)
theorem parse_text {l : List It} (h : validC l = true) : parseP (textL l) = l := by
  unfold parseP
  rw [lines_text l (valid_itok h), List.map_map]
  have : ∀ x ∈ l, (parseLineP ∘ lineL) x = id x := fun x hx => parse_line (valid_itok h x hx)
  rw [List.map_congr_left this, List.map_id]
end Go.Proofs.YtpldhempbdionaaGreatDoor.Dg
/- The reference's scanner of codes, in plain Lean: the text of a valid code is read back. No program in sight. -/
namespace Go.Proofs.YtpldhempbdionaaGreatDoor.Dg
open Go
/-- A word without quotes, and what begins with the byte behind it. -/
def wordU : List UInt8 → List UInt8 × List UInt8
  | [] => ([], [])
  | c :: r => if c = 32 ∨ c = 10 then ([], c :: r) else (c :: (wordU r).1, (wordU r).2)
/-- The inside of quotes, and what is behind them. -/
def wordQ : Nat → List UInt8 → List UInt8 × List UInt8
  | 0, r => ([], r)
  | _ + 1, [] => ([], [])
  | f + 1, c :: r => match r with
    | [] => if c = 34 then ([], []) else ([c], [])
    | d :: r' => if c = 92 then (unesc d :: (wordQ f r').1, (wordQ f r').2) else if c = 34 then ([], d :: r') else (c :: (wordQ f (d :: r')).1, (wordQ f (d :: r')).2)
def wordR (quoted : Bool) (r : List UInt8) : List UInt8 × List UInt8 := if quoted then wordQ r.length r.tail else wordU r
/-- The words of an item, from its k-th on. -/
def wordsR : Nat → Nat → List (List UInt8) → List UInt8 → List (List UInt8) × List UInt8
  | 0, _, ws, r => (ws, r)
  | f + 1, k, ws, r => if k < 6 ∧ r ≠ [] ∧ (k < 4 ∨ ws.head? ≠ some wDiv) then wordsR f (k + 1) (ws ++ [(wordR (decide (4 ≤ k)) r).1]) (wordR (decide (4 ≤ k)) r).2.tail else (ws, r)
def itemR (ws : List (List UInt8)) : It :=
  if ws.getD 0 [] = wDiv then ⟨1, B (ws.getD 1 []), dashL (ws.getD 2 []), dashL (ws.getD 3 []), nil8, nil8, decide (ws.getD 0 [] = wRep)⟩
  else ⟨2, B (ws.getD 1 []), dashL (ws.getD 2 []), dashL (ws.getD 3 []), B (ws.getD 4 []), B (ws.getD 5 []), decide (ws.getD 0 [] = wRep)⟩
/-- What a text is parsed to; none where words are missing. -/
def parseR : Nat → List It → List UInt8 → Option (List It)
  | 0, _, _ => none
  | f + 1, its, r => if r ≠ [] ∧ its.length ≤ 2000 then
      (if (wordsR 7 0 [] r).1.length < 4 ∨ ((wordsR 7 0 [] r).1.length < 6 ∧ (wordsR 7 0 [] r).1.getD 0 [] ≠ wDiv) then none
       else parseR f (its ++ [itemR (wordsR 7 0 [] r).1]) (wordsR 7 0 [] r).2)
    else some its
theorem wordU_at (w : List UInt8) (c : UInt8) (r : List UInt8) (hw : ∀ d ∈ w, d ≠ 32 ∧ d ≠ 10) (hc : c = 32 ∨ c = 10) : wordU (w ++ c :: r) = (w, c :: r) := by
  induction w with
  | nil => rw [List.nil_append, wordU, if_pos hc]
  | cons d w ih =>
    have := hw d (List.mem_cons_self ..)
    rw [List.cons_append, wordU, if_neg (fun h => h.elim this.1 this.2), ih (fun e he => hw e (List.mem_cons_of_mem _ he))]
theorem wordQ_esc : ∀ (n : List UInt8) (f : Nat) (c : UInt8) (r : List UInt8), (escL n).length < f → wordQ f (escL n ++ 34 :: c :: r) = (n, c :: r)
  | [], f, c, r, h => by
    obtain ⟨f, rfl⟩ : ∃ g, f = g + 1 := ⟨f - 1, by omega⟩
    show wordQ (f + 1) (34 :: c :: r) = _
    rw [wordQ]
    simp
  | a :: n, f, c, r, h => by
    obtain ⟨f, rfl⟩ : ∃ g, f = g + 1 := ⟨f - 1, by omega⟩
    have e : escL (a :: n) = escC a ++ escL n := by unfold escL; rw [List.flatMap_cons]
    rw [e] at h ⊢
    cases ha : plain8 a with
    | true =>
      rw [esc_plain ha] at h ⊢
      obtain ⟨d, t, hd⟩ : ∃ d t, escL n ++ 34 :: c :: r = d :: t := by
        cases hh : escL n ++ 34 :: c :: r with
        | nil => simp at hh
        | cons d t => exact ⟨d, t, rfl⟩
      have h1 : a ≠ 92 := fun e => by subst e; exact absurd ha (by decide)
      have h2 : a ≠ 34 := fun e => by subst e; exact absurd ha (by decide)
      have ih := wordQ_esc n f c r (by simp only [List.length_append, List.length_singleton] at h; omega)
      rw [hd] at ih
      rw [List.append_assoc, hd]
      show wordQ (f + 1) (a :: d :: t) = _
      rw [wordQ, if_neg h1, if_neg h2, ih]
    | false =>
      obtain ⟨d, he1, he2⟩ := esc_other ha
      rw [he1] at h ⊢
      have ih := wordQ_esc n f c r (by simp only [List.length_append, List.length_cons, List.length_nil] at h; omega)
      rw [List.append_assoc]
      show wordQ (f + 1) (92 :: d :: (escL n ++ 34 :: c :: r)) = _
      rw [wordQ]
      simp only
      rw [if_pos trivial, ih, he2]
theorem wordR_quote (n : List UInt8) (c : UInt8) (r : List UInt8) : wordR true (quoteL n ++ c :: r) = (n, c :: r) := by
  unfold wordR quoteL
  rw [if_pos rfl, List.cons_append, List.tail_cons, List.append_assoc]
  show wordQ _ (escL n ++ 34 :: c :: r) = _
  exact wordQ_esc n _ c r (by simp only [List.length_cons, List.length_append]; omega)
theorem wordsR_step (f k : Nat) (ws : List (List UInt8)) (r w r' : List UInt8) (hk : k < 6) (hr : r ≠ []) (hd : k < 4 ∨ ws.head? ≠ some wDiv) (hw : wordR (decide (4 ≤ k)) r = (w, r')) : wordsR (f + 1) k ws r = wordsR f (k + 1) (ws ++ [w]) r'.tail := by
  rw [wordsR, if_pos ⟨hk, hr, hd⟩, hw]
theorem ne_append {a : List UInt8} {c : UInt8} {r : List UInt8} : a ++ c :: r ≠ [] := by simp
/-- The words of an item's line. -/
theorem words_line {x : It} (h : ItOk x) (r : List UInt8) : (wordsR 7 0 [] (lineL x ++ r)).2 = r ∧ itemR (wordsR 7 0 [] (lineL x ++ r)).1 = x ∧ 4 ≤ (wordsR 7 0 [] (lineL x ++ r)).1.length ∧ ((wordsR 7 0 [] (lineL x ++ r)).1.getD 0 [] ≠ wDiv → 6 ≤ (wordsR 7 0 [] (lineL x ++ r)).1.length) := by
  obtain ⟨h1, h2⟩ := proper_id h.pr
  obtain ⟨p1, p2⟩ := or_ok (parent_ok h)
  obtain ⟨n1, n2⟩ := or_ok (numb_ok h2)
  have i1 : ∀ c ∈ L x.id, c ≠ 32 ∧ c ≠ 10 := fun c hc => ⟨((name_ok h1).1 c hc).1, ((name_ok h1).1 c hc).2.1⟩
  have w1 : ∀ c ∈ wDiv, c ≠ 32 ∧ c ≠ 10 := by decide
  have w2 : ∀ c ∈ wArt, c ≠ 32 ∧ c ≠ 10 := by decide
  have w3 : ∀ c ∈ wRep, c ≠ 32 ∧ c ≠ 10 := by decide
  have u : ∀ (k : Nat) (w : List UInt8) (c : UInt8) (t : List UInt8), k < 4 → (∀ d ∈ w, d ≠ 32 ∧ d ≠ 10) → (c = 32 ∨ c = 10) → wordR (decide (4 ≤ k)) (w ++ c :: t) = (w, c :: t) := fun k w c t hk hw hc => by
    unfold wordR
    rw [decide_eq_false (by omega), if_neg (by decide)]
    exact wordU_at w c t hw hc
  have v : ∀ (k : Nat) (w : List UInt8) (c : UInt8) (t : List UInt8), 4 ≤ k → wordR (decide (4 ≤ k)) (quoteL w ++ c :: t) = (w, c :: t) := fun k w c t hk => by
    rw [decide_eq_true hk]
    exact wordR_quote w c t
  rcases proper_kind h.pr with ⟨k1, k2, k3, k4⟩ | ⟨k1, _, _⟩
  · have hl : lineL x ++ r = wDiv ++ 32 :: (L x.id ++ 32 :: (orL (L x.parent) ++ 32 :: (orL (L x.number) ++ 10 :: r))) := by
      unfold lineL wordsI
      rw [if_pos k1]
      simp [joinW]
    have hw : wordsR 7 0 [] (lineL x ++ r) = ([wDiv, L x.id, orL (L x.parent), orL (L x.number)], r) := by
      rw [hl, wordsR_step 6 0 [] _ _ _ (by omega) ne_append (Or.inl (by omega)) (u 0 _ _ _ (by omega) w1 (Or.inl rfl)), List.tail_cons,
        wordsR_step 5 1 _ _ _ _ (by omega) ne_append (Or.inl (by omega)) (u 1 _ _ _ (by omega) i1 (Or.inl rfl)), List.tail_cons,
        wordsR_step 4 2 _ _ _ _ (by omega) ne_append (Or.inl (by omega)) (u 2 _ _ _ (by omega) p1 (Or.inl rfl)), List.tail_cons,
        wordsR_step 3 3 _ _ _ _ (by omega) ne_append (Or.inl (by omega)) (u 3 _ _ _ (by omega) n1 (Or.inr rfl)), List.tail_cons]
      rw [wordsR, if_neg (by simp)]
      rfl
    rw [hw]
    refine ⟨rfl, ?_, by simp, fun hh => absurd rfl hh⟩
    unfold itemR
    simp only [List.getD_cons_zero, List.getD_cons_succ]
    rw [if_pos trivial, p2, n2, B_L]
    have hd : decide (wDiv = wRep) = false := by decide
    rw [hd]
    obtain ⟨a1, a2, a3, a4, a5, a6, a7⟩ := x
    simp only at k1 k2 k3 k4
    subst k1 k2 k3 k4
    rfl
  · have k0 : x.kind ≠ 1 := by rw [k1]; decide
    have hg : decide ((if x.gone then wRep else wArt) = wRep) = x.gone := by cases x.gone <;> decide
    have hwd : ∀ c ∈ (if x.gone then wRep else wArt), c ≠ 32 ∧ c ≠ 10 := by split <;> assumption
    have hd : (if x.gone then wRep else wArt) ≠ wDiv := by split <;> decide
    have hl : lineL x ++ r = (if x.gone then wRep else wArt) ++ 32 :: (L x.id ++ 32 :: (orL (L x.parent) ++ 32 :: (orL (L x.number) ++ 32 :: (quoteL (L x.north) ++ 32 :: (quoteL (L x.south) ++ 10 :: r))))) := by
      unfold lineL wordsI
      rw [if_neg k0]
      simp [joinW]
    generalize (if x.gone then wRep else wArt) = W at *
    have hd2 : some W ≠ some wDiv := fun e => hd (Option.some.inj e)
    have hw : wordsR 7 0 [] (lineL x ++ r) = ([W, L x.id, orL (L x.parent), orL (L x.number), L x.north, L x.south], r) := by
      rw [hl, wordsR_step 6 0 [] _ _ _ (by omega) ne_append (Or.inl (by omega)) (u 0 _ _ _ (by omega) hwd (Or.inl rfl)), List.tail_cons,
        wordsR_step 5 1 _ _ _ _ (by omega) ne_append (Or.inl (by omega)) (u 1 _ _ _ (by omega) i1 (Or.inl rfl)), List.tail_cons,
        wordsR_step 4 2 _ _ _ _ (by omega) ne_append (Or.inl (by omega)) (u 2 _ _ _ (by omega) p1 (Or.inl rfl)), List.tail_cons,
        wordsR_step 3 3 _ _ _ _ (by omega) ne_append (Or.inl (by omega)) (u 3 _ _ _ (by omega) n1 (Or.inl rfl)), List.tail_cons,
        wordsR_step 2 4 _ _ _ _ (by omega) ne_append (Or.inr (by simpa using hd)) (v 4 _ _ _ (by omega)), List.tail_cons,
        wordsR_step 1 5 _ _ _ _ (by omega) ne_append (Or.inr (by simpa using hd)) (v 5 _ _ _ (by omega)), List.tail_cons]
      rw [wordsR, if_neg (by omega)]
      rfl
    rw [hw]
    refine ⟨rfl, ?_, by simp, fun _ => by simp⟩
    unfold itemR
    simp only [List.getD_cons_zero, List.getD_cons_succ]
    rw [if_neg hd, p2, n2, B_L, B_L, B_L, hg]
    obtain ⟨a1, a2, a3, a4, a5, a6, a7⟩ := x
    simp only at k1
    subst k1
    rfl
theorem line_ne (x : It) (r : List UInt8) : lineL x ++ r ≠ [] := by unfold lineL; simp
theorem parseR_text : ∀ (l its : List It) (f : Nat), (∀ x ∈ l, ItOk x) → l.length < f → its.length + l.length ≤ 2000 → parseR f its (textL l) = some (its ++ l)
  | [], its, f, _, hf, _ => by
    obtain ⟨f, rfl⟩ : ∃ g, f = g + 1 := ⟨f - 1, by omega⟩
    show parseR (f + 1) its [] = _
    rw [parseR, if_neg (fun h => h.1 rfl), List.append_nil]
  | x :: l, its, f, h, hf, hn => by
    obtain ⟨f, rfl⟩ : ∃ g, f = g + 1 := ⟨f - 1, by omega⟩
    have e : textL (x :: l) = lineL x ++ textL l := by unfold textL; rw [List.flatMap_cons]
    obtain ⟨a1, a2, a3, a4⟩ := words_line (h x (List.mem_cons_self ..)) (textL l)
    rw [List.length_cons] at hf hn
    rw [e, parseR, if_pos ⟨line_ne x _, by omega⟩, if_neg (fun hh => by
      rcases hh with hh | hh
      · omega
      · have := a4 hh.2; omega), a1, a2, parseR_text l (its ++ [x]) f (fun y hy => h y (List.mem_cons_of_mem _ hy)) (by omega) (by rw [List.length_append, List.length_singleton]; omega), List.append_assoc]
    rfl
end Go.Proofs.YtpldhempbdionaaGreatDoor.Dg
/- What both parsers answer, in plain Lean; the laws CodeTexts and CodeMatchesReference. No program in sight. -/
namespace Go.Proofs.YtpldhempbdionaaGreatDoor.Dg
open Go
def goodT (t : List UInt8) (l : List It) : Prop := validC l = true ∧ textL l = t
instance (t : List UInt8) (l : List It) : Decidable (goodT t l) := by unfold goodT; infer_instance
/-- What the program's Parse answers. -/
def parseO (t : ByteArray) : List It × Int := if 1000000 < t.size then ([], 2) else if goodT (L t) (parseP (L t)) then (parseP (L t), 0) else ([], 5)
/-- What the reference's Parse answers: f rounds. -/
def parseRO (f : Nat) (t : ByteArray) : List It × Int := if 1000000 < t.size then ([], 2) else match parseR f [] (L t) with
  | none => ([], 5)
  | some l => if goodT (L t) l then (l, 0) else ([], 5)
theorem good_parse {t : List UInt8} {l : List It} (h : goodT t l) : parseP t = l := by
  rw [← h.2]; exact parse_text h.1
theorem good_len {l : List It} (h : validC l = true) : l.length ≤ 2000 := by
  unfold validC at h
  simp only [Bool.and_eq_true, decide_eq_true_eq] at h
  omega
theorem parse_same (f : Nat) (hf : 2001 ≤ f) (t : ByteArray) : parseRO f t = parseO t := by
  unfold parseRO parseO
  by_cases hz : 1000000 < t.size
  · rw [if_pos hz, if_pos hz]
  · rw [if_neg hz, if_neg hz]
    by_cases hg : goodT (L t) (parseP (L t))
    · rw [if_pos hg]
      have h1 := good_len hg.1
      have h2 : parseR f [] (L t) = some (parseP (L t)) := by
        have := parseR_text (parseP (L t)) [] f (valid_itok hg.1) (by omega) (by simpa using h1)
        rw [hg.2] at this
        simpa using this
      rw [h2]
      show (if goodT (L t) (parseP (L t)) then _ else _) = _
      rw [if_pos hg]
    · rw [if_neg hg]
      cases hr : parseR f [] (L t) with
      | none => rfl
      | some l =>
        show (if goodT (L t) l then _ else _) = _
        rw [if_neg fun h => hg (by rw [good_parse h]; exact h)]
end Go.Proofs.YtpldhempbdionaaGreatDoor.Dg
/- word of the reference. No conditions but those that each theorem states. -/
namespace Go.Proofs.YtpldhempbdionaaGreatDoor
open Go Go.RowKit Go.Sort Go.Maps
theorem drop_byte {t : ByteArray} {k : Nat} (h : k < t.size) {x : UInt8} (hx : t[k]'h = x) : (Dg.L t).drop k = x :: (Dg.L t).drop (k + 1) := by
  obtain ⟨hl, e⟩ := get_L h hx
  rw [List.drop_eq_getElem_cons hl, e]
theorem drop_end (t : ByteArray) : (Dg.L t).drop t.size = [] := List.drop_eq_nil_of_le (Nat.le_of_eq (Dg.len_L t))
theorem drop_len (t : ByteArray) (k : Nat) : ((Dg.L t).drop k).length = t.size - k := by rw [List.length_drop, Dg.len_L]
theorem byte_ne {x y : UInt8} (h : x ≠ y) : ((x.toNat : Int) == (y.toNat : Int)) = false := beq_eq_false_iff_ne.2 (fun e => h (by apply UInt8.toNat_inj.1; omega))
theorem ret_word {o : ByteArray} {k : Nat} {W R : List UInt8} {n : Nat} (h1 : Dg.L o = W) (h2 : k + R.length = n) : Ending.returned (.tuple #[.string o, .int .i64 (k : Int)]) = .returned (.tuple #[.string (Dg.B W), .int .i64 ((n - R.length : Nat) : Int)]) := by
  rw [← h1, Dg.B_L, show n - R.length = k by omega]
set_option maxRecDepth 100000 in
set_option maxHeartbeats 8000000 in
theorem rword_of (t : ByteArray) (ht : t.size ≤ 1000000) (a : Nat) (ha : a < t.size) (q : Bool) (W R : List UInt8) (hWR : Dg.wordR q ((Dg.L t).drop a) = (W, R)) (w : World) :
    Calls Tryz.prog 60 #[.string t, .int .i64 (a : Int), .bool q] w fun e w' => e = .returned (.tuple #[.string (Dg.B W), .int .i64 ((t.size - R.length : Nat) : Int)]) ∧ w' = w := by
  have HWR := hide hWR
  clear hWR
  go_enter Tryz.func60, Tryz.ntmps60
  cases q with
  | false =>
    have h0 : Dg.wordU ((Dg.L t).drop a) = (W, R) := HWR.out
    have H0 := hide h0
    clear h0 HWR
    go_wp2
    go_loop [8, 9, 10] (fun ov iv _ => ∃ (k : Nat) (o : ByteArray), k ≤ t.size ∧ iv = .int .i64 (k : Int) ∧ ov = .string o ∧ o.size ≤ k ∧ Hid (Dg.L o ++ (Dg.wordU ((Dg.L t).drop k)).1 = W ∧ (Dg.wordU ((Dg.L t).drop k)).2 = R)) (fun _ iv _ => t.size - (intOf iv).toNat)
    case atStart => exact ⟨a, ⟨#[]⟩, by omega, rfl, rfl, Nat.zero_le _, ⟨by rw [H0.out]; rfl, by rw [H0.out]⟩⟩
    case round =>
      obtain ⟨k, o, hk, rfl, rfl, hoz, hrel2⟩ := hrel
      by_cases hlt : k < t.size
      · have hkn : (k : Int) < (t.size : Int) := by omega
        have hk0 : (0 : Int) ≤ (k : Int) := by omega
        obtain ⟨x, hx⟩ : ∃ x, t[k]'hlt = x := ⟨_, rfl⟩
        have hext := ext_byte hlt hx
        have hd := drop_byte hlt hx
        obtain ⟨X1, hX1⟩ : ∃ X1, Dg.B [x] = X1 := ⟨_, rfl⟩
        rw [hX1] at hext
        have hX1s : X1.size = 1 := by rw [← hX1]; rfl
        have HD := hide hd; have HX1 := hide hX1
        clear hd hX1
        have hstop : (x = 32 ∨ x = 10) → Dg.L o = W ∧ k + R.length = t.size := fun hx2 => by
          obtain ⟨h1, h2⟩ := hrel2.out
          have h3 : Dg.wordU (x :: (Dg.L t).drop (k + 1)) = ([], x :: (Dg.L t).drop (k + 1)) := by rw [Dg.wordU, if_pos hx2]
          rw [HD.out, h3] at h1 h2
          refine ⟨by simpa using h1, ?_⟩
          rw [← h2, ← HD.out, drop_len]
          omega
        have HST := hide hstop
        clear hstop
        by_cases h32 : x = 32
        · obtain ⟨h1, h2⟩ := HST.out (Or.inl h32)
          have E9 := hide (ret_word h1 h2)
          subst h32
          clear HST h1 h2
          go_wp2
          go_ret2
          exact ⟨E9.out, rfl⟩
        · have b32 : ((x.toNat : Int) == 32) = false := byte_ne (y := 32) h32
          by_cases h10 : x = 10
          · obtain ⟨h1, h2⟩ := HST.out (Or.inr h10)
            have E9 := hide (ret_word h1 h2)
            subst h10
            clear HST h1 h2
            go_wp2
            go_ret2
            exact ⟨E9.out, rfl⟩
          · have b10 : ((x.toNat : Int) == 10) = false := byte_ne (y := 10) h10
            have hnext : Dg.L (o ++ X1) ++ (Dg.wordU ((Dg.L t).drop (k + 1))).1 = W ∧ (Dg.wordU ((Dg.L t).drop (k + 1))).2 = R := by
              obtain ⟨h1, h2⟩ := hrel2.out
              have h3 : Dg.wordU (x :: (Dg.L t).drop (k + 1)) = (x :: (Dg.wordU ((Dg.L t).drop (k + 1))).1, (Dg.wordU ((Dg.L t).drop (k + 1))).2) := by rw [Dg.wordU, if_neg (fun h => h.elim h32 h10)]
              rw [HD.out, h3] at h1 h2
              exact ⟨by rw [Dg.L_append, ← HX1.out, Dg.L_B, ← h1]; simp, h2⟩
            have HNX := hide hnext
            clear hnext h32 h10 HST hrel2
            go_wp2
            go_round
            case rel => exact ⟨k + 1, o ++ X1, by omega, by go_num, rfl, by rw [ByteArray.size_append]; omega, HNX.out⟩
            case measure => simp [intOf]; omega
      · obtain rfl : k = t.size := by omega
        obtain ⟨h1, h2⟩ := hrel2.out
        rw [drop_end] at h1 h2
        have h3 : ([] : List UInt8) = R := h2
        have E9 := hide (ret_word (k := t.size) (n := t.size) (R := R) (show Dg.L o = W by simpa [Dg.wordU] using h1) (by rw [← h3]; rfl))
        clear h1 h2 h3
        go_wp2
        go_ret2
        exact ⟨E9.out, rfl⟩
  | true =>
    have h0 : Dg.wordQ (t.size - a) ((Dg.L t).drop (a + 1)) = (W, R) := by
      have h1 := HWR.out
      unfold Dg.wordR at h1
      rw [if_pos rfl, drop_len, List.tail_drop] at h1
      exact h1
    have H0 := hide h0
    clear h0 HWR
    have hat : (a : Int) < (t.size : Int) := by omega
    go_wp2
    go_loop [8, 9, 10] (fun ov iv _ => ∃ (k f : Nat) (o : ByteArray), k ≤ t.size ∧ t.size - k ≤ f ∧ iv = .int .i64 (k : Int) ∧ ov = .string o ∧ o.size ≤ k ∧ Hid (Dg.L o ++ (Dg.wordQ f ((Dg.L t).drop k)).1 = W ∧ (Dg.wordQ f ((Dg.L t).drop k)).2 = R)) (fun _ iv _ => t.size - (intOf iv).toNat)
    case atStart => exact ⟨a + 1, t.size - a, ⟨#[]⟩, by omega, by omega, by go_num, rfl, Nat.zero_le _, ⟨by rw [H0.out]; rfl, by rw [H0.out]⟩⟩
    case round =>
      clear hat H0
      obtain ⟨k, f, o, hk, hf, rfl, rfl, hoz, hrel2⟩ := hrel
      by_cases hlt : k < t.size
      · have hkn : (k : Int) < (t.size : Int) := by omega
        have hk0 : (0 : Int) ≤ (k : Int) := by omega
        obtain ⟨f, rfl⟩ : ∃ g, f = g + 1 := ⟨f - 1, by omega⟩
        obtain ⟨x, hx⟩ : ∃ x, t[k]'hlt = x := ⟨_, rfl⟩
        have hext := ext_byte hlt hx
        have hd := drop_byte hlt hx
        obtain ⟨X1, hX1⟩ : ∃ X1, Dg.B [x] = X1 := ⟨_, rfl⟩
        rw [hX1] at hext
        have hX1s : X1.size = 1 := by rw [← hX1]; rfl
        have HD := hide hd; have HX1 := hide hX1
        clear hd hX1
        by_cases h34 : x = 34
        · have E9 := hide (show Ending.returned (.tuple #[.string o, .int .i64 ((k + 1 : Nat) : Int)]) = .returned (.tuple #[.string (Dg.B W), .int .i64 ((t.size - R.length : Nat) : Int)]) from by
            obtain ⟨h1, h2⟩ := hrel2.out
            rw [HD.out] at h1 h2
            have h3 : Dg.wordQ (f + 1) (x :: (Dg.L t).drop (k + 1)) = ([], (Dg.L t).drop (k + 1)) := by
              cases hr : (Dg.L t).drop (k + 1) with
              | nil => rw [Dg.wordQ, if_pos h34]
              | cons d r => rw [Dg.wordQ, if_neg (by rw [h34]; decide), if_pos h34]
            rw [h3] at h1 h2
            refine ret_word (by simpa using h1) ?_
            rw [← h2]
            show k + 1 + ((Dg.L t).drop (k + 1)).length = _
            rw [drop_len]; omega)
          subst h34
          clear hrel2
          go_wp2
          go_ret2
          exact ⟨by rw [← E9.out]; rfl, rfl⟩
        · have b34 : ((x.toNat : Int) == 34) = false := byte_ne (y := 34) h34
          by_cases hk1 : k + 1 < t.size
          · have hkn1 : (k : Int) + 1 < (t.size : Int) := by omega
            obtain ⟨y, hy⟩ : ∃ y, t[k + 1]'hk1 = y := ⟨_, rfl⟩
            have hd1 := drop_byte hk1 hy
            have hext1 := ext_byte hk1 hy
            by_cases h92 : x = 92
            · have hnext : ∀ X : ByteArray, Dg.L X = [Dg.unesc y] → Dg.L (o ++ X) ++ (Dg.wordQ f ((Dg.L t).drop (k + 1 + 1))).1 = W ∧ (Dg.wordQ f ((Dg.L t).drop (k + 1 + 1))).2 = R := fun X hX => by
                obtain ⟨h1, h2⟩ := hrel2.out
                rw [HD.out, hd1] at h1 h2
                have h3 : Dg.wordQ (f + 1) (x :: y :: (Dg.L t).drop (k + 1 + 1)) = (Dg.unesc y :: (Dg.wordQ f ((Dg.L t).drop (k + 1 + 1))).1, (Dg.wordQ f ((Dg.L t).drop (k + 1 + 1))).2) := by rw [Dg.wordQ]; rw [if_pos h92]
                rw [h3] at h1 h2
                exact ⟨by rw [Dg.L_append, hX, ← h1]; simp, h2⟩
              have HNX := hide hnext
              obtain ⟨Y1, hY1⟩ : ∃ Y1, Dg.B [y] = Y1 := ⟨_, rfl⟩
              rw [hY1] at hext1
              have hY1s : Y1.size = 1 := by rw [← hY1]; rfl
              have HY1 := hide hY1
              have hw2 : IntKind.i64.wrap ((k : Int) + 2) = (k : Int) + 2 := IntWalk.i64_in _ (by omega)
              have hw1 : IntKind.i64.wrap ((k : Int) + 1) = (k : Int) + 1 := IntWalk.i64_in _ (by omega)
              subst h92
              clear hnext hd1 hY1 hrel2 HD h34
              by_cases h110 : y = 110
              · subst h110
                go_wp2
                go_round
                case rel => exact ⟨k + 1 + 1, f, o ++ ⟨#[10]⟩, by omega, by omega, by go_num, rfl, by rw [ByteArray.size_append]; show o.size + 1 ≤ _; omega, HNX.out _ rfl⟩
                case measure => simp [intOf]; omega
              · have b110 : ((y.toNat : Int) == 110) = false := byte_ne (y := 110) h110
                have hun : Dg.unesc y = y := by unfold Dg.unesc; rw [if_neg h110]
                have HUN := hide hun
                clear hun h110
                go_wp2
                go_round
                case rel => exact ⟨k + 1 + 1, f, o ++ Y1, by omega, by omega, by go_num, rfl, by rw [ByteArray.size_append]; omega, HNX.out _ (by rw [← HY1.out, Dg.L_B, HUN.out])⟩
                case measure => simp [intOf]; omega
            · have b92 : ((x.toNat : Int) == 92) = false := byte_ne (y := 92) h92
              have hnext : Dg.L (o ++ X1) ++ (Dg.wordQ f ((Dg.L t).drop (k + 1))).1 = W ∧ (Dg.wordQ f ((Dg.L t).drop (k + 1))).2 = R := by
                obtain ⟨h1, h2⟩ := hrel2.out
                rw [HD.out, hd1] at h1 h2
                have h3 : Dg.wordQ (f + 1) (x :: y :: (Dg.L t).drop (k + 1 + 1)) = (x :: (Dg.wordQ f (y :: (Dg.L t).drop (k + 1 + 1))).1, (Dg.wordQ f (y :: (Dg.L t).drop (k + 1 + 1))).2) := by rw [Dg.wordQ]; rw [if_neg h92, if_neg h34]
                rw [h3] at h1 h2
                rw [hd1]
                exact ⟨by rw [Dg.L_append, ← HX1.out, Dg.L_B, ← h1]; simp, h2⟩
              have HNX := hide hnext
              clear hnext hd1 hext1 hy hrel2 h92 h34
              go_wp2
              go_round
              case rel => exact ⟨k + 1, f, o ++ X1, by omega, by omega, by go_num, rfl, by rw [ByteArray.size_append]; omega, HNX.out⟩
              case measure => simp [intOf]; omega
          · have hkn1 : ¬ (k : Int) + 1 < (t.size : Int) := by omega
            have hnext : Dg.L (o ++ X1) ++ (Dg.wordQ f ((Dg.L t).drop (k + 1))).1 = W ∧ (Dg.wordQ f ((Dg.L t).drop (k + 1))).2 = R := by
              obtain ⟨h1, h2⟩ := hrel2.out
              have he : (Dg.L t).drop (k + 1) = [] := by rw [show k + 1 = t.size by omega]; exact drop_end t
              rw [HD.out, he] at h1 h2
              have h3 : Dg.wordQ (f + 1) [x] = ([x], []) := by rw [Dg.wordQ]; rw [if_neg h34]
              have h4 : Dg.wordQ f [] = ([], []) := by cases f <;> rfl
              rw [h3] at h1 h2
              rw [he, h4]
              exact ⟨by rw [Dg.L_append, ← HX1.out, Dg.L_B, ← h1]; simp, h2⟩
            have HNX := hide hnext
            clear hnext hrel2 h34
            by_cases h92 : x = 92
            · subst h92
              go_wp2
              go_round
              case rel => exact ⟨k + 1, f, o ++ X1, by omega, by omega, by go_num, rfl, by rw [ByteArray.size_append]; omega, HNX.out⟩
              case measure => simp [intOf]; omega
            · have b92 : ((x.toNat : Int) == 92) = false := byte_ne (y := 92) h92
              clear h92
              go_wp2
              go_round
              case rel => exact ⟨k + 1, f, o ++ X1, by omega, by omega, by go_num, rfl, by rw [ByteArray.size_append]; omega, HNX.out⟩
              case measure => simp [intOf]; omega
      · obtain rfl : k = t.size := by omega
        obtain ⟨h1, h2⟩ := hrel2.out
        rw [drop_end] at h1 h2
        have h4 : Dg.wordQ f [] = ([], []) := by cases f <;> rfl
        rw [h4] at h1 h2
        have h3 : ([] : List UInt8) = R := h2
        have E9 := hide (ret_word (k := t.size) (n := t.size) (R := R) (show Dg.L o = W by simpa using h1) (by rw [← h3]; rfl))
        clear h1 h2 h3
        go_wp2
        go_ret2
        exact ⟨E9.out, rfl⟩
end Go.Proofs.YtpldhempbdionaaGreatDoor
/- The lines of a text, by the pieces that strings.SplitAfter answers. No program in sight. -/
namespace Go.Proofs.YtpldhempbdionaaGreatDoor
open Go
theorem index_at10 : ∀ (w r : List UInt8), (∀ d ∈ w, d ≠ 10) → Lib.index (w ++ 10 :: r) [10] = (w.length : Int)
  | [], r, _ => by
    rw [List.nil_append, Lib.index, if_pos (by simp)]; rfl
  | d :: w, r, h => by
    have hd : d ≠ 10 := h d (List.mem_cons_self ..)
    have ih := index_at10 w r (fun e he => h e (List.mem_cons_of_mem _ he))
    rw [List.cons_append, Lib.index, if_neg (by simp [List.isPrefixOf, hd.symm]), ih, if_neg (by
      intro e
      have := beq_iff_eq.1 e
      omega), List.length_cons]
    rfl
theorem split_at10 : ∀ l : List UInt8, (∀ d ∈ l, d ≠ 10) ∨ ∃ w r, l = w ++ 10 :: r ∧ (∀ d ∈ w, d ≠ 10)
  | [] => Or.inl (by simp)
  | c :: l => by
    by_cases hc : c = 10
    · exact Or.inr ⟨[], l, by rw [hc]; rfl, by simp⟩
    · rcases split_at10 l with h | ⟨w, r, h1, h2⟩
      · exact Or.inl (by simpa [hc] using h)
      · exact Or.inr ⟨c :: w, r, by rw [h1]; rfl, by simpa [hc] using h2⟩
theorem lines_last : ∀ l : List UInt8, (∀ d ∈ l, d ≠ 10) → Dg.linesP l = if l = [] then [] else [l]
  | [], _ => rfl
  | c :: l, h => by
    have ih := lines_last l (fun d hd => h d (List.mem_cons_of_mem _ hd))
    rw [Dg.linesP, if_neg (h c (List.mem_cons_self ..)), ih]
    by_cases hl : l = []
    · subst hl; rfl
    · rw [if_neg hl, if_neg (by simp)]
theorem splitK_lines : ∀ (k : Nat) (l : List UInt8), l.count 10 = k → (Lib.splitK [10] 1 k l).filter (fun x => !x.isEmpty) = Dg.linesP l
  | 0, l, h => by
    have hn : ∀ d ∈ l, d ≠ 10 := fun d hd e => by
      subst e
      have := List.count_pos_iff.2 hd
      omega
    rw [lines_last l hn]
    show List.filter _ [l] = _
    cases l with
    | nil => rfl
    | cons a l => rfl
  | k + 1, l, h => by
    rcases split_at10 l with hn | ⟨w, r, rfl, hw⟩
    · have : l.count 10 = 0 := List.count_eq_zero.2 fun hm => hn 10 hm rfl
      omega
    · have hc : r.count 10 = k := by
        rw [List.count_append, List.count_cons_self] at h
        have : w.count 10 = 0 := List.count_eq_zero.2 fun hm => hw 10 hm rfl
        omega
      rw [Dg.linesP_at w r hw, ← splitK_lines k r hc, Lib.splitK, index_at10 w r hw, if_neg (by
        intro e
        have := beq_iff_eq.1 e
        omega)]
      have e1 : (w ++ 10 :: r).take (((w.length : Int)).toNat + 1) = w ++ [10] := by
        rw [Int.toNat_natCast, show w ++ 10 :: r = (w ++ [10]) ++ r by simp, List.take_left' (by simp)]
      have e2 : (w ++ 10 :: r).drop (((w.length : Int)).toNat + ([10] : List UInt8).length) = r := by
        rw [Int.toNat_natCast, show w ++ 10 :: r = (w ++ [10]) ++ r by simp, List.drop_left' (by simp)]
      rw [e1, e2, List.filter_cons_of_pos (by simp)]
theorem countB_ten (t : ByteArray) : Lib.countB t ⟨#[10]⟩ = (Dg.L t).count 10 := by
  show Lib.count t.data.toList [10] = _
  rw [Lib.count_one]
  rfl
/-- The pieces that are not empty are the lines. -/
theorem split_lines (t : ByteArray) : ((Lib.splitB ⟨#[10]⟩ 1 (Lib.countB t ⟨#[10]⟩) t).map Dg.L).filter (fun x => !x.isEmpty) = Dg.linesP (Dg.L t) := by
  have h := Lib.splitB_data ⟨#[10]⟩ 1 (Lib.countB t ⟨#[10]⟩) t
  have h2 : (Lib.splitB ⟨#[10]⟩ 1 (Lib.countB t ⟨#[10]⟩) t).map Dg.L = Lib.splitK [10] 1 (Lib.countB t ⟨#[10]⟩) (Dg.L t) := h
  rw [h2]
  exact splitK_lines _ _ (countB_ten t).symm
/-- What the lines that are not empty make, up to a piece. -/
def itemsTo (P : List ByteArray) (k : Nat) : List Dg.It := (((P.take k).map Dg.L).filter (fun x => !x.isEmpty)).map Dg.parseLineP
theorem itemsTo_succ (P : List ByteArray) (k : Nat) (h : k < P.length) : itemsTo P (k + 1) = itemsTo P k ++ (if P[k].size = 0 then [] else [Dg.parseLineP (Dg.L P[k])]) := by
  unfold itemsTo
  rw [List.take_succ_eq_append_getElem h, List.map_append, List.filter_append, List.map_append]
  congr 1
  have hs : (Dg.L P[k]).length = P[k].size := rfl
  by_cases h0 : P[k].size = 0
  · rw [if_pos h0]
    have : Dg.L P[k] = [] := List.length_eq_zero_iff.1 (by rw [hs]; exact h0)
    rw [List.map_cons, List.map_nil, this]
    rfl
  · rw [if_neg h0]
    cases hl : Dg.L P[k] with
    | nil => rw [hl] at hs; simp at hs; omega
    | cons a r => rw [List.map_cons, List.map_nil, hl]; rfl
theorem itemsTo_all (t : ByteArray) (P : List ByteArray) (hP : P = Lib.splitB ⟨#[10]⟩ 1 (Lib.countB t ⟨#[10]⟩) t) : itemsTo P P.length = Dg.parseP (Dg.L t) := by
  unfold itemsTo Dg.parseP
  rw [List.take_length, hP, split_lines]
end Go.Proofs.YtpldhempbdionaaGreatDoor
/- A code of a law. No conditions but those that each theorem states. -/
namespace Go.Proofs.YtpldhempbdionaaGreatDoor
open Go Go.RowKit Go.Sort Go.Maps
/-- What a law about a code holds: the code in its variable, its items, the tables, and a list of strings. -/
structure CS (g : Nat) (A : Option Addr) (n c : Nat) (l : List Dg.It) (A7 : Option Addr) (L : List ByteArray) (X : World) : Prop where
  row : X.heap[g]? = some (.cells #[.slice A n c] 24 (0, 0))
  its : Its X X.heap.size A l
  env : Env X
  lis : Strs X X.heap.size A7 L
theorem CS.below {g : Nat} {A : Option Addr} {n c : Nat} {l : List Dg.It} {A7 : Option Addr} {L : List ByteArray} {X X' : World} (h : CS g A n c l A7 L X) (hb : Below X.heap.size X X') : CS g A n c l A7 L X' :=
  ⟨iNext h.row hb, h.its.keep hb, h.env.next hb, keepS h.lis hb⟩
theorem few1_of (l : List Dg.It) (A : Option Addr) (n c : Nat) (hl : l.length = n) (hn : n ≤ 9223372036854775807) (w : World) (g : Nat) (hg : w.heap.size = g) (hI : Its w w.heap.size A l) (R : Bool) (hR : fewC l 30 = R) :
    Calls Tryz.prog 10 #[.slice (some ⟨g, 0, none⟩) 1 1] (w.alloc (.cells #[.slice A n c] 24)) fun e w' => e = .returned (.bool R) ∧ Below w.heap.size w w' := by
  subst hg hl
  have hx := Below.news (Below.refl w.heap.size w) (.cells #[.slice A l.length c] 24)
  refine (cfew_of [⟨l, A, c⟩] w.heap.size 1 rfl (by decide) _ ⟨by simp, fun j d hj => ?_⟩ R (by rw [← hR]; simp)).mono fun e w' h => ⟨h.1, bnext hx h.2⟩
  cases j with
  | zero => cases hj; exact ⟨iCells0 (heap_alloc_new w _), hI.keep hx, hn⟩
  | succ j => cases hj
end Go.Proofs.YtpldhempbdionaaGreatDoor
/- Items of the call's own: a store, pieces. No conditions but those that each theorem states. -/
namespace Go.Proofs.YtpldhempbdionaaGreatDoor
open Go Go.RowKit Go.Sort Go.Maps
theorem OwnI.full {w : World} {B : Nat} {v : Value} {l : List Dg.It} (h : OwnI w B v l) (h0 : 0 < l.length) : ∃ g cap, v = .slice (some ⟨g, 0, none⟩) l.length cap ∧ B ≤ g ∧ g < w.heap.size ∧ l.length ≤ cap ∧ ∃ cs, w.heap[g]? = some (.cells cs 31 (0, 0)) := by
  have h' := h
  unfold OwnI at h'
  rcases h'.2 with ⟨_, h1⟩ | ⟨g, cap, cur, hv, hb, hg, h2, _⟩
  · omega
  · exact ⟨g, cap, hv, hb, lt_of_block hg, h2, cur, hg⟩
theorem OwnI.it {w : World} {B g n cap : Nat} {l : List Dg.It} (h : OwnI w B (.slice (some ⟨g, 0, none⟩) n cap) l) : Its w w.heap.size (some ⟨g, 0, none⟩) l := by
  obtain ⟨A, c, e, _, hI⟩ := h.its
  injection e with e1 _ _
  rw [e1]; exact hI
/-- The items from a place on. -/
theorem Its.drop {w : World} {B b off : Nat} {l : List Dg.It} (h : Its w B (Option.some ⟨b, off, none⟩) l) (k : Nat) : Its w B (Option.some ⟨b, off + k * 7, none⟩) (l.drop k) :=
  ⟨fun h0 => by
    rw [List.length_drop] at h0
    obtain ⟨b', off', e, hb, hc⟩ := h.at_ (by omega)
    cases e
    refine ⟨b, off + k * 7, rfl, hb, fun j x hj i u hu => ?_⟩
    rw [List.getElem?_drop] at hj
    have := hc (k + j) x hj i u hu
    rw [show off + (k + j) * 7 + i = off + k * 7 + j * 7 + i by omega] at this
    exact this⟩
theorem own_ne {w : World} {B : Nat} {v : Value} {l : List Dg.It} (h : OwnI w B v l) {g : Nat} {cs : Array Value} (hr : w.heap[g]? = some (.cells cs 24 (0, 0))) : ∀ k, v.ownBlock = some k → k ≠ g := fun k hk e => by
  unfold OwnI at h
  rcases h.2 with ⟨h0, _⟩ | ⟨g', cap, cur, hv, _, hg, _⟩
  · rw [h0] at hk; cases hk
  · rw [hv] at hk
    cases hk
    have e' : g' = g := e
    rw [e', hr] at hg
    injection hg with hg
    injection hg with _ h9 _
    exact absurd h9 (by decide)
theorem OwnI.far {w : World} {B : Nat} {v : Value} {l : List Dg.It} (h : OwnI w B v l) {g : Nat} {cs : Array Value} (hr : w.heap[g]? = some (.cells cs 24 (0, 0))) (u : Value) : OwnI (w.setCell ⟨g, 0, none⟩ u) B v l := by
  have hne := own_ne h hr
  unfold OwnI at *
  refine ⟨h.1, ?_⟩
  rcases h.2 with h0 | ⟨g', cap, cur, hv, hb, hg, r⟩
  · exact Or.inl h0
  · exact Or.inr ⟨g', cap, cur, hv, hb, (Below.heap_setCell _ _ _ _ (hne g' (by rw [hv]; rfl))).trans hg, r⟩
theorem OwnI.it' {w : World} {B n cap : Nat} {A : Option Addr} {l : List Dg.It} (h : OwnI w B (.slice A n cap) l) : Its w w.heap.size A l := by
  obtain ⟨A', c, e, _, hI⟩ := h.its
  injection e with e1 _ _
  rw [e1]; exact hI
end Go.Proofs.YtpldhempbdionaaGreatDoor
/- strings.SplitAfter at a line feed; what Parse of package code reads of a line. No conditions but those that each theorem states. -/
namespace Go.Proofs.YtpldhempbdionaaGreatDoor
open Go Go.RowKit Go.Sort Go.Maps
theorem splitB_size (sep : ByteArray) (sv : Nat) : ∀ (k : Nat) (s : ByteArray), ∀ p ∈ Lib.splitB sep sv k s, p.size ≤ s.size
  | 0, s, p, hp => by
    rw [Lib.splitB_zero] at hp
    rw [List.mem_singleton.1 hp]
    exact Nat.le_refl _
  | k + 1, s, p, hp => by
    unfold Lib.splitB at hp
    split at hp
    · rw [List.mem_singleton.1 hp]
      exact Nat.le_refl _
    · rcases List.mem_cons.1 hp with rfl | hp
      · rw [ByteArray.size_extract]; omega
      · have := splitB_size sep sv k _ p hp
        rw [ByteArray.size_extract] at this
        omega
/-- The pieces of a text, each with its line feed. -/
def piecesB (t : ByteArray) : List ByteArray := Lib.splitB ⟨#[10]⟩ 1 (Lib.countB t ⟨#[10]⟩) t
theorem pieces_len (t : ByteArray) : (piecesB t).length = Lib.countB t ⟨#[10]⟩ + 1 := Lib.splitB_all ⟨#[10]⟩ (by decide) 1 _ t rfl
def MaxI (w : World) : Prop := ∃ m, w.cell? ⟨2, 0, none⟩ = some (.int .i64 m)
theorem MaxI.below {w w' : World} {B : Nat} (h : MaxI w) (hb : Below B w w') (hB : 2 < B) : MaxI w' := by
  obtain ⟨m, hm⟩ := h
  exact ⟨m, (hb.cell (p := ⟨2, 0, none⟩) hB).trans hm⟩
theorem MaxI.lt {w : World} (h : MaxI w) : 2 < w.heap.size := by
  obtain ⟨m, hm⟩ := h
  exact World.block_lt_of_cell? _ _ hm
theorem MaxI.next {w w' : World} (h : MaxI w) (hb : Below w.heap.size w w') : MaxI w' := h.below hb h.lt
theorem splitafter_any (t : ByteArray) (hs : t.size ≤ 1000000) (w : World) (hm : MaxI w) (n : Nat) (hn : (piecesB t).length = n) :
    Calls Tryz.prog 57 #[.string t, .string ⟨#[10]⟩] w fun e w' => (∃ b, w.heap.size ≤ b ∧ e = .returned (.slice (some ⟨b, 0, none⟩) n n) ∧ Strs w' w'.heap.size (some ⟨b, 0, none⟩) (piecesB t)) ∧ Below w.heap.size w w' := by
  obtain ⟨m, hm⟩ := hm
  have hpl := pieces_len t
  have hle := Lib.countB_le ⟨#[10]⟩ (by decide) t.size t (Nat.le_refl _)
  obtain ⟨cnt, hcnt⟩ : ∃ cnt, Lib.countB t ⟨#[10]⟩ = cnt := ⟨_, rfl⟩
  have hc := Tryz.strings_genSplit t ⟨#[10]⟩ 1 (-1) (cnt + 1) m w (by omega) hm (by decide) (by decide) (by decide) (by decide) (by rw [hcnt, if_pos (by decide)]; omega)
  have e1 : Lib.splitB ⟨#[10]⟩ 1 (cnt + 1 - 1) t = piecesB t := by unfold piecesB; rw [hcnt]; rfl
  rw [e1, hn] at hc
  have e2 : cnt + 1 = n := by omega
  rw [e2] at hc
  have e3 : Lib.cellsOf (piecesB t) n = ((piecesB t).map Value.string).toArray := by rw [← hn]; exact Lib.cellsOf_full _
  rw [e3] at hc
  clear hpl hle e1 e2 e3 hcnt hm
  go_enter Tryz.func57, Tryz.ntmps57
  go_wp2_with fail
  refine hc.mono ?_
  rintro e w' ⟨rfl, rfl⟩
  go_wp2
  go_ret
  refine ⟨⟨_, Nat.le_refl _, rfl, ⟨fun _ => ⟨w.heap.size, 0, rfl, by simp, fun j s hj => ?_⟩⟩⟩, (Below.refl _ _).alloc (Nat.le_refl _) _⟩
  rw [cell_of_row _ _ _ _ _ (0, 0) (heap_alloc_new w (.cells ((piecesB t).map Value.string).toArray _)), Nat.zero_add, List.getElem?_toArray, List.getElem?_map, hj]
  rfl
theorem results_ct9 {fn : Func} {p u : Tmp} {ty : TypeId} (h : fn.results = #[.cell p ty, .tmp u]) (tmps : Array Value) (w : World) (g : Nat) (t : TypeId) (cs : Array Value) (fr : Nat × Nat) (fs : Array Field)
    (hp : tmps.getD p undef = .pointer (some ⟨g, 0, none⟩)) (hg : w.heap[g]? = some (.cells cs t fr))
    (hu : Tryz.prog.underlying ty = some (.struct fs)) (hi : (Tryz.prog.info? ty).map (·.size) = some cs.size) :
    (results fn tmps).run Tryz.prog w = .ok (.tuple #[.agg cs, tmps.getD u undef]) w := by
  rw [results_cell_tmp h, hp]
  simp only [asAddr, Sem.run_pure, Result.andThen_ok]
  rw [run_loadVar_row w g t ty cs fr (.struct fs) hg hu rfl hi]
  rfl
theorem strs_set {X : World} {B b off g : Nat} {l : List ByteArray} (h : Strs X B (some ⟨b, off, none⟩) l) (hne : b ≠ g) (u : Value) : Strs (X.setCell ⟨g, 0, none⟩ u) B (some ⟨b, off, none⟩) l :=
  ⟨fun h0 => by
    obtain ⟨b', off', e, hb, hc⟩ := h.at_ h0
    cases e
    exact ⟨b, off, rfl, hb, fun j s hj => (World.cell?_setCell_other _ _ _ _ (fun e => hne (by injection e with e1; exact e1.symm))).trans (hc j s hj)⟩⟩
/-- A dash stands for nothing. -/
def dashB (s : ByteArray) : ByteArray := Dg.dashL (Dg.L s)
theorem dashB_yes {s : ByteArray} (h : Dg.L s = [45]) : dashB s = ⟨#[]⟩ := by unfold dashB Dg.dashL; rw [if_pos h]; rfl
theorem dashB_no {s : ByteArray} (h : Dg.L s ≠ [45]) : dashB s = s := by unfold dashB Dg.dashL; rw [if_neg h, Dg.B_L]
theorem toL_yes {s : ByteArray} {l : List UInt8} (h : Dg.L s = l) : (s.toList == l) = true := by rw [Lib.toList_data]; show (Dg.L s == l) = true; rw [h]; exact beq_self_eq_true _
theorem toL_no {s : ByteArray} {l : List UInt8} (h : Dg.L s ≠ l) : (s.toList == l) = false := by rw [Lib.toList_data]; exact beq_eq_false_iff_ne.2 h
theorem of_toL {s : ByteArray} {l : List UInt8} (h : (s.toList == l) = true) : Dg.L s = l := by rw [Lib.toList_data] at h; exact beq_iff_eq.1 h
theorem of_toLn {s : ByteArray} {l : List UInt8} (h : (s.toList == l) = false) : Dg.L s ≠ l := by rw [Lib.toList_data] at h; exact beq_eq_false_iff_ne.1 h
theorem toL_dec (s : ByteArray) (l : List UInt8) : (s.toList == l) = decide (Dg.L s = l) := by
  by_cases h : Dg.L s = l
  · rw [toL_yes h, decide_eq_true h]
  · rw [toL_no h, decide_eq_false h]
theorem tail_of {st : List UInt8} {s t : ByteArray} (h : unt2 st s = t) : ∃ q, Dg.L s = q ++ Dg.L t := by
  obtain ⟨q, hq⟩ := Dg.until_tail st (Dg.L s)
  refine ⟨q, ?_⟩
  rw [← h, (unt_L st s).2, ← hq]
theorem inside_tail : ∀ (f : Nat) (r : List UInt8), ∃ q, r = q ++ (Dg.insideP f r).2
  | 0, r => ⟨[], rfl⟩
  | f + 1, r => by
    obtain ⟨q, hq⟩ := Dg.until_tail [92, 34] r
    rw [Dg.insideP]
    cases hu : (Dg.untilP [92, 34] r).2 with
    | nil => exact ⟨r, by simp⟩
    | cons c r' =>
      rw [hu] at hq
      simp only
      by_cases h92 : Dg.stopAt [92, 34] r = some 92
      · rw [if_pos h92]
        obtain ⟨q2, hq2⟩ := inside_tail f r'
        exact ⟨q ++ c :: q2, by
          conv => lhs; rw [hq, hq2]
          simp⟩
      · rw [if_neg h92]
        exact ⟨q, hq⟩
theorem quote_tail (r : List UInt8) : ∃ q, r = q ++ (Dg.quoteP r).2 := by
  obtain ⟨q1, h1⟩ := Dg.until_tail [34] r
  obtain ⟨q2, h2⟩ := inside_tail r.length (Dg.untilP [34] r).2
  have e : (Dg.quoteP r).2 = (Dg.insideP r.length (Dg.untilP [34] r).2).2.tail := rfl
  rw [e]
  cases hI : (Dg.insideP r.length (Dg.untilP [34] r).2).2 with
  | nil => exact ⟨r, by simp⟩
  | cons a t =>
    rw [hI] at h2
    exact ⟨q1 ++ q2 ++ [a], by
      conv => lhs; rw [h1, h2]
      simp⟩
/-- What a line is read as, step by step. -/
theorem line_eq (line : ByteArray) (r1 r2 r3 r4 : ByteArray) (h1 : unt2 [32] line = r1) (h2 : unt2 [32] r1 = r2) (h3 : unt2 [32] r2 = r3) (h4 : unt2 [32, 10] r3 = r4) :
    Dg.parseLineP (Dg.L line) = if Dg.L (unt1 [32] line) = Dg.wDiv then ⟨1, unt1 [32] r1, dashB (unt1 [32] r2), dashB (unt1 [32, 10] r3), Dg.nil8, Dg.nil8, false⟩
      else ⟨2, unt1 [32] r1, dashB (unt1 [32] r2), dashB (unt1 [32, 10] r3), Dg.B (Dg.quoteP (Dg.L r4)).1, Dg.B (Dg.quoteP (Dg.quoteP (Dg.L r4)).2).1, decide (Dg.L (unt1 [32] line) = Dg.wRep)⟩ := by
  subst h1 h2 h3 h4
  rfl
theorem parse_kind (l : List UInt8) : (Dg.parseLineP l).kind = 1 ∨ (Dg.parseLineP l).kind = 2 := by
  unfold Dg.parseLineP
  simp only
  split
  · exact Or.inl rfl
  · exact Or.inr rfl
theorem items_w {l : List Dg.It} (hk : ∀ x ∈ l, x.kind = 1 ∨ x.kind = 2) (hz : ∀ x ∈ l, ∀ s ∈ Dg.fieldsI x, s.size ≤ 10000) : ∀ x ∈ l, ItW x := fun x hx => by
  have h := hz x hx
  have k := hk x hx
  unfold Dg.fieldsI at h
  simp only [List.mem_cons, List.not_mem_nil, or_false, forall_eq_or_imp, forall_eq] at h
  obtain ⟨_, h1, h2, h3, h4, h5⟩ := h
  exact ⟨by omega, by omega, by omega, by omega, by omega, by omega, by omega⟩
theorem parse_kinds (t : List UInt8) : ∀ x ∈ Dg.parseP t, x.kind = 1 ∨ x.kind = 2 := fun x hx => by
  unfold Dg.parseP at hx
  obtain ⟨l, _, rfl⟩ := List.mem_map.1 hx
  exact parse_kind l
theorem items_grow (P : List ByteArray) (k m : Nat) (h : k ≤ m) : (itemsTo P k).length ≤ (itemsTo P m).length := by
  unfold itemsTo
  rw [List.length_map, List.length_map]
  have e : P.take m = P.take k ++ (P.take m).drop k := by
    conv => lhs; rw [← List.take_append_drop k (P.take m)]
    rw [List.take_take, Nat.min_eq_left h]
  rw [e, List.map_append, List.filter_append, List.length_append]
  omega
/-- Too many items. -/
theorem parseO_many {t : ByteArray} (hz : t.size ≤ 1000000) {k : Nat} (hk : k < (piecesB t).length) (h : 2000 < (itemsTo (piecesB t) k).length) : Dg.parseO t = ([], 5) := by
  unfold Dg.parseO
  rw [if_neg (by omega), if_neg]
  rintro ⟨hv, _⟩
  have h1 := Dg.good_len hv
  have h2 := items_grow (piecesB t) k (piecesB t).length (by omega)
  rw [itemsTo_all t (piecesB t) rfl] at h2
  omega
/-- What the comparison with the text written back says. -/
theorem parseO_back {t : ByteArray} (hz : t.size ≤ 1000000) {l : List Dg.It} (hl : l = Dg.parseP (Dg.L t)) {S : ByteArray} {E : Int} (hS : Dg.textC l = (S, E)) : Dg.parseO t = if E = 0 ∧ S = t then (l, 0) else ([], 5) := by
  subst hl
  unfold Dg.parseO
  rw [if_neg (by omega)]
  unfold Dg.textC at hS
  by_cases hv : Dg.validC (Dg.parseP (Dg.L t)) = true
  · rw [if_pos hv] at hS
    split at hS
    · rename_i hb
      cases hS
      rw [if_neg, if_neg (fun h => absurd h.1 (by decide))]
      rintro ⟨_, h2⟩
      rw [h2, Dg.len_L] at hb
      omega
    · cases hS
      by_cases he : Dg.textL (Dg.parseP (Dg.L t)) = Dg.L t
      · rw [if_pos ⟨hv, he⟩, if_pos ⟨rfl, by rw [he, Dg.B_L]⟩]
      · rw [if_neg (fun h => he h.2), if_neg (fun (h : (0 : Int) = 0 ∧ Dg.B (Dg.textL (Dg.parseP (Dg.L t))) = t) => he (congrArg Dg.L h.2))]
  · rw [if_neg hv] at hS
    cases hS
    rw [if_neg (fun h => hv h.1), if_neg (fun h => absurd h.1 (by decide))]
end Go.Proofs.YtpldhempbdionaaGreatDoor
/- Parse of package code. No conditions but those that each theorem states. -/
namespace Go.Proofs.YtpldhempbdionaaGreatDoor
open Go Go.RowKit Go.Sort Go.Maps
/-- While a line is read: the scanner, the item in block bx; else what was below block n1. -/
structure PI (n1 : Nat) (wr : World) (line r : ByteArray) (x : Dg.It) (X : World) : Prop where
  sc : ScAt (n1 + 1) n1 line r X
  it : X.heap[n1 + 1 + 1]? = some (.cells (itV x) 31 (0, 0))
  bl : Below n1 wr X
  sz : n1 ≤ wr.heap.size
theorem PI.unt {n1 : Nat} {wr X X' : World} {line r r' : ByteArray} {x : Dg.It} (h : PI n1 wr line r x X) (ho : Off [n1] X X') (hi : InAt n1 r' X') : PI n1 wr line r' x X' :=
  ⟨h.sc.next (by omega) ho hi, ho.row h.it (fun hm => by have := List.mem_singleton.1 hm; omega), h.bl.trans (ho.below (Nat.le_trans h.sz h.bl.size) (fun g hg => by rw [List.mem_singleton.1 hg]; exact Nat.le_refl _)), h.sz⟩
theorem PI.set {n1 : Nat} {wr X : World} {line r : ByteArray} {x : Dg.It} (h : PI n1 wr line r x X) (j : Nat) (u : Value) (y : Dg.It) (hy : (itV x).setIfInBounds j u = itV y) : PI n1 wr line r y (X.setCell ⟨n1 + 1 + 1, j, none⟩ u) :=
  ⟨⟨(Below.heap_setCell _ _ _ _ (show n1 + 1 ≠ n1 + 1 + 1 by omega)).trans h.sc.sc, (Below.heap_setCell _ _ _ _ (show n1 ≠ n1 + 1 + 1 by omega)).trans h.sc.inp⟩, by rw [← hy]; exact setCell_rowN h.it j u, h.bl.setCell (p := ⟨n1 + 1 + 1, j, none⟩) (by show n1 ≤ n1 + 1 + 1; omega) u, h.sz⟩
theorem PI.below {n1 : Nat} {wr X X' : World} {line r : ByteArray} {x : Dg.It} (h : PI n1 wr line r x X) (hb : Below X.heap.size X X') : PI n1 wr line r x X' :=
  ⟨h.sc.below hb, iNext h.it hb, h.bl.trans (hb.mono (Nat.le_trans h.sz h.bl.size)), h.sz⟩
def ScRow (n1 : Nat) (line : ByteArray) (X : World) : Prop := X.heap[n1 + 1]? = some (.cells #[.pointer (some ⟨n1, 0, none⟩), .string line] 85 (0, 0))
theorem PI.row {n1 : Nat} {wr X : World} {line r : ByteArray} {x : Dg.It} (h : PI n1 wr line r x X) : ScRow n1 line X := h.sc.sc
theorem PI.cells {n1 : Nat} {wr X : World} {line r : ByteArray} {x : Dg.It} (h : PI n1 wr line r x X) : X.cell? ⟨n1 + 1 + 1, 0, none⟩ = some (.int .i64 x.kind) ∧ X.cell? ⟨n1 + 1 + 1, 1, none⟩ = some (.string x.id) ∧ X.cell? ⟨n1 + 1 + 1, 2, none⟩ = some (.string x.parent) ∧ X.cell? ⟨n1 + 1 + 1, 3, none⟩ = some (.string x.number) ∧ X.cell? ⟨n1 + 1 + 1, 4, none⟩ = some (.string x.north) ∧ X.cell? ⟨n1 + 1 + 1, 5, none⟩ = some (.string x.south) ∧ X.cell? ⟨n1 + 1 + 1, 6, none⟩ = some (.bool x.gone) := iCells h.it
theorem PI.fz {n1 : Nat} {wr X : World} {line r : ByteArray} {x : Dg.It} (h : PI n1 wr line r x X) (j : Nat) : X.frozen? ⟨n1 + 1 + 1, j, none⟩ = false := frozen_of_row _ _ _ _ _ h.it
/-- While the lines are gone through. -/
structure PL (w : World) (B0 : Nat) (A9 : Option Addr) (t : ByteArray) (k : Nat) (v : Value) (X : World) : Prop where
  r2 : X.heap[w.heap.size]? = some (.cells #[.slice none 0 0] 24 (0, 0))
  rc : X.heap[w.heap.size + 1]? = some (.cells #[v] 24 (0, 0))
  own : OwnI X B0 v (itemsTo (piecesB t) k)
  pcs : Strs X B0 A9 (piecesB t)
  bl : Below w.heap.size w X
  sz : B0 ≤ X.heap.size
  b0 : w.heap.size + 2 ≤ B0
  few : (itemsTo (piecesB t) k).length ≤ 2001
theorem src_item {w : World} (x : Dg.It) : SrcI (w.alloc (.cells (itV x) 31)) (some ⟨w.heap.size, 0, none⟩) [x] :=
  Or.inr ⟨w.heap.size, 0, rfl, fun j u hj => by
    rw [cell_of_row _ _ _ _ _ (0, 0) (heap_alloc_new w (.cells (itV x) 31)), Nat.zero_add, ← Array.getElem?_toList]
    rw [List.flatMap_cons, List.flatMap_nil, List.append_nil] at hj
    exact hj⟩
set_option maxRecDepth 100000 in
set_option maxHeartbeats 16000000 in
theorem Code.parse_of (t : ByteArray) (hs : t.size ≤ 1000000) (hz : ∀ x ∈ Dg.parseP (Dg.L t), ∀ s ∈ Dg.fieldsI x, s.size ≤ 10000) (w : World) (hm : MaxI w) (l : List Dg.It) (E : Int) (hO : Dg.parseO t = (l, E)) :
    Calls Tryz.prog 24 #[.string t] w fun e w' => (∃ A c, e = .returned (.tuple #[.agg #[.slice A l.length c], .int .i64 E]) ∧ l.length ≤ c ∧ Its w' w'.heap.size A l) ∧ Below w.heap.size w w' := by
  have hmx : Tryz.prog.follows .mixedOrders = true := by kernel_rfl
  obtain ⟨r2, rc, hb, hsz⟩ := iAlloc2 w (.cells #[.slice none 0 0] 24) (.cells #[.slice none 0 0] 24)
  have ht : ¬ ((1000000 : Int) < (t.size : Int)) := by omega
  have HO := hide hO; have HZ := hide hz
  clear hO hz
  obtain ⟨N, hN⟩ : ∃ N, (piecesB t).length = N := ⟨_, rfl⟩
  have HN := hide hN
  clear hN
  go_enter Tryz.func24, Tryz.ntmps24
  go_wp2_with fail
  generalize (w.alloc (.cells #[.slice none 0 0] 24)).alloc (.cells #[.slice none 0 0] 24) = w1 at *
  refine (splitafter_any t hs w1 (hm.next hb) N HN.out).mono ?_
  rintro e w2 ⟨⟨b9, hb9, rfl, hP⟩, hb2⟩
  have hN1 : 0 < (piecesB t).length := by rw [pieces_len]; omega
  have hNz : N ≤ 1000001 := by
    have h1 := pieces_len t
    have h2 := Lib.countB_le ⟨#[10]⟩ (by decide) t.size t (Nat.le_refl _)
    have h3 := HN.out
    omega
  have hb9' : w.heap.size + 2 ≤ b9 := by omega
  have hS0 : PL w w2.heap.size (some ⟨b9, 0, none⟩) t 0 (.slice none 0 0) w2 := ⟨iNext r2 hb2, iNext rc hb2, World.ownsRow_nil _ _ _ _, hP, bnext hb hb2, Nat.le_refl _, by have := hb2.size; omega, Nat.zero_le _⟩
  obtain ⟨B0, hB0⟩ : ∃ B0, w2.heap.size = B0 := ⟨_, rfl⟩
  rw [hB0] at hS0
  have HB0 := hide hB0
  have HB9 := hide hb9'
  clear hb hb2 r2 rc hP hN1 hsz hB0 hm hb9 hb9'
  go_wp2
  go_loopw [6, 7, 8, 9, 19] (fun _ _ _ _ kv wr => ∃ (k : Nat) (v : Value), k ≤ N ∧ kv = .int .i64 (k : Int) ∧ PL w B0 (some ⟨b9, 0, none⟩) t k v wr) (fun _ _ _ _ kv _ => N - (intOf kv).toNat)
  case atStart => exact ⟨0, _, by omega, rfl, hS0⟩
  case round =>
    clear hS0
    obtain ⟨k, v, hkN, rfl, hS⟩ := hrel
    obtain ⟨AI, cI, ev, hcI, hIt⟩ := hS.own.its
    obtain ⟨l0, hl0⟩ : ∃ l0, itemsTo (piecesB t) k = l0 := ⟨_, rfl⟩
    obtain ⟨n, hn⟩ : ∃ n, l0.length = n := ⟨_, rfl⟩
    rw [hl0, hn] at ev hcI
    rw [hl0] at hIt
    subst ev
    have HL0 := hide hl0; have HNL := hide hn
    clear hl0 hn
    have hrc := iCells0 hS.rc
    by_cases hlt : k < N
    · have hkl : k < (piecesB t).length := by rw [HN.out]; exact hlt
      obtain ⟨line, hline⟩ : ∃ line, (piecesB t)[k] = line := ⟨_, rfl⟩
      obtain ⟨b', off', e9, _, hpc⟩ := hS.pcs.get hkl
      cases e9
      rw [hline, Nat.zero_add] at hpc
      have hkn : (k : Int) < (N : Int) := by omega
      have hk0 : (0 : Int) ≤ (k : Int) := by omega
      have hls : line.size ≤ 1000000 := by
        have := splitB_size _ _ _ _ _ (List.getElem_mem hkl)
        rw [hline] at this
        omega
      have hsucc := itemsTo_succ (piecesB t) k hkl
      rw [hline, HL0.out] at hsucc
      have HSU := hide hsucc
      clear hsucc hline
      by_cases h0 : Dg.L line = []
      · have he := emp_yes h0
        have hz0 : line.size = 0 := by rw [← Dg.len_L, h0]; rfl
        have HZ0 := hide hz0
        clear hz0 h0
        go_wp2
        go_roundw
        case rel => exact ⟨k + 1, _, by omega, by go_num, ⟨hS.r2, hS.rc, by rw [HSU.out, if_pos HZ0.out, List.append_nil, ← HL0.out]; exact hS.own, hS.pcs, hS.bl, hS.sz, hS.b0, by rw [HSU.out, if_pos HZ0.out, List.append_nil, ← HL0.out]; exact hS.few⟩⟩
        case measure => simp [intOf]; omega
      · have he := emp_no h0
        have hz0 : line.size ≠ 0 := fun e => h0 (List.length_eq_zero_iff.1 (by rw [Dg.len_L]; exact e))
        have HZ0 := hide hz0
        clear hz0 h0
        by_cases hbig : 2000 < n
        · have hbi : (2000 : Int) < (n : Int) := by omega
          have hE := parseO_many hs hkl (by rw [HL0.out, HNL.out]; exact hbig)
          rw [HO.out] at hE
          cases hE
          have h2 := iCells0 hS.r2
          have hbl := hS.bl
          have fz2 := frozen_of_row _ _ 0 _ _ hS.r2
          clear hIt HO HSU
          go_wp2
          refine bodyPost_ret (results_ct9 Tryz.results24 _ _ w.heap.size 24 #[.slice none 0 0] (0, 0) _ rfl (setCell_row1 hS.r2 (.slice none 0 0)) Tryz.underlying24 (by kernel_rfl)) rfl ⟨⟨none, 0, rfl, Nat.le_refl _, Its.nil _ _ _⟩, hbl.setCell (p := ⟨w.heap.size, 0, none⟩) (Nat.le_refl _) _⟩
        · have hbi : ¬ (2000 : Int) < (n : Int) := by omega
          obtain ⟨i1, i2, i3, hb3, hsz3⟩ := iAlloc3 wr (.cells #[.string line] 83) (.cells #[.pointer (some ⟨wr.heap.size, 0, none⟩), .string line] 85) (.cells #[.int .i64 2, .string ⟨#[]⟩, .string ⟨#[]⟩, .string ⟨#[]⟩, .string ⟨#[]⟩, .string ⟨#[]⟩, .bool false] 31)
          go_wp2_with fail
          have hX0 : PI wr.heap.size wr line line ⟨2, ⟨#[]⟩, ⟨#[]⟩, ⟨#[]⟩, ⟨#[]⟩, ⟨#[]⟩, false⟩ (((wr.alloc (.cells #[.string line] 83)).alloc (.cells #[.pointer (some ⟨wr.heap.size, 0, none⟩), .string line] 85)).alloc (.cells #[.int .i64 2, .string ⟨#[]⟩, .string ⟨#[]⟩, .string ⟨#[]⟩, .string ⟨#[]⟩, .string ⟨#[]⟩, .bool false] 31)) := ⟨⟨i2, i1⟩, i3, hb3, Nat.le_refl _⟩
          generalize ((wr.alloc (.cells #[.string line] 83)).alloc (.cells #[.pointer (some ⟨wr.heap.size, 0, none⟩), .string line] 85)).alloc (.cells #[.int .i64 2, .string ⟨#[]⟩, .string ⟨#[]⟩, .string ⟨#[]⟩, .string ⟨#[]⟩, .string ⟨#[]⟩, .bool false] 31) = x0 at *
          clear i1 i2 i3 hb3 hsz3 hrc hpc
          refine (until_any wr.heap.size line hls ⟨#[32]⟩ [32] rfl (by decide) (by decide) (by decide) x0 hX0.sc.inp).mono ?_
          rintro e x1 ⟨rfl, hi1, ho1⟩
          have hX1 := hX0.unt ho1 hi1
          have hq1 := unt_size [32] line
          clear hX0 hi1 ho1
          obtain ⟨wd, hwd⟩ : ∃ wd, unt1 [32] line = wd := ⟨_, rfl⟩
          obtain ⟨t1, ht1⟩ : ∃ t1, unt2 [32] line = t1 := ⟨_, rfl⟩
          rw [hwd] at hq1 ⊢
          rw [ht1] at hX1 hq1
          have HWD := hide hwd; have HT1 := hide ht1
          clear hwd ht1
          go_upto_region 13 with (fail)
          refine wp_region_noPanic ?_
          refine wp_region_L (ScRow wr.heap.size line) 21 hmx ?_
          have hX2 := hX1.below (Below.refl x1.heap.size x1).drew
          have hR2 := hX2.row
          clear hX1
          generalize x1.drew = x2 at *
          refine wpAnyL_take (i := 0) (f0 := 23) (v := ?_) rfl (by decide +kernel) (by decide +kernel) (by decide +kernel) (by decide +kernel) (by decide +kernel) (fun _ _ _ h => h) (Or.inl ⟨by rfl, ?_⟩) hR2 ?_
          rotate_left
          · intro wS hS; go_simp; (try with_reducible rfl)
          simp only [Act.put, List.getElem_toArray, List.getElem_cons_zero, List.setIfInBounds_toArray, List.set_cons_succ, List.set_cons_zero]
          refine wpAnyL_take (i := 1) (f0 := 23) (v := ?_) rfl (by decide +kernel) (by decide +kernel) (by decide +kernel) (by decide +kernel) (by decide +kernel) (fun _ _ _ h => h) (Or.inl ⟨by rfl, ?_⟩) hR2 ?_
          rotate_left
          · intro wS hS; go_simp; (try with_reducible rfl)
          simp only [Act.put, List.getElem_toArray, List.getElem_cons_succ, List.getElem_cons_zero, List.setIfInBounds_toArray, List.set_cons_succ, List.set_cons_zero]
          refine wpAnyL_take (i := 2) (f0 := 23) (v := ?_) rfl (by decide +kernel) (by decide +kernel) (by decide +kernel) (by decide +kernel) (by decide +kernel) (fun _ _ _ h => h) (Or.inl ⟨by rfl, ?_⟩) hR2 ?_
          rotate_left
          · intro wS hS; go_simp; (try with_reducible rfl)
          simp only [Act.put, List.getElem_toArray, List.getElem_cons_succ, List.getElem_cons_zero, List.setIfInBounds_toArray, List.set_cons_succ, List.set_cons_zero]
          refine wpAnyL_take (i := 3) (f0 := 23) (v := ?_) rfl (by decide +kernel) (by decide +kernel) (by decide +kernel) (by decide +kernel) (by decide +kernel) (fun _ _ _ h => h) (Or.inl ⟨by rfl, ?_⟩) hR2 ?_
          rotate_left
          · intro wS hS; have c9 := (iCells2 hS).1; go_simp; (try with_reducible rfl)
          simp only [Act.put, List.getElem_toArray, List.getElem_cons_succ, List.getElem_cons_zero, List.setIfInBounds_toArray, List.set_cons_succ, List.set_cons_zero]
          refine wpAnyL_take (i := 5) (f0 := 23) (v := ?_) rfl (by decide +kernel) (by decide +kernel) (by decide +kernel) (by decide +kernel) (by decide +kernel) (fun _ _ _ h => h) (Or.inl ⟨by rfl, ?_⟩) hR2 ?_
          rotate_left
          · intro wS hS; go_simp; (try with_reducible rfl)
          simp only [Act.put, List.getElem_toArray, List.getElem_cons_succ, List.getElem_cons_zero, List.setIfInBounds_toArray, List.set_cons_succ, List.set_cons_zero]
          refine wpAnyL_take (i := 6) (f0 := 23) (v := ?_) rfl (by decide +kernel) (by decide +kernel) (by decide +kernel) (by decide +kernel) (by decide +kernel) (fun _ _ _ h => h) (Or.inl ⟨by rfl, ?_⟩) hR2 ?_
          rotate_left
          · intro wS hS; go_simp; (try with_reducible rfl)
          simp only [Act.put, List.getElem_toArray, List.getElem_cons_succ, List.getElem_cons_zero, List.setIfInBounds_toArray, List.set_cons_succ, List.set_cons_zero]
          refine wpAnyL_take (i := 7) (f0 := 23) (v := ?_) rfl (by decide +kernel) (by decide +kernel) (by decide +kernel) (by decide +kernel) (by decide +kernel) (fun _ _ _ h => h) (Or.inl ⟨by rfl, ?_⟩) hR2 ?_
          rotate_left
          · intro wS hS; go_simp; (try with_reducible rfl)
          simp only [Act.put, List.getElem_toArray, List.getElem_cons_succ, List.getElem_cons_zero, List.setIfInBounds_toArray, List.set_cons_succ, List.set_cons_zero]
          refine wpAnyL_take (i := 8) (f0 := 23) (v := ?_) rfl (by decide +kernel) (by decide +kernel) (by decide +kernel) (by decide +kernel) (by decide +kernel) (fun _ _ _ h => h) (Or.inl ⟨by rfl, ?_⟩) hR2 ?_
          rotate_left
          · intro wS hS; have c9 := (iCells2 hS).1; go_simp; (try with_reducible rfl)
          simp only [Act.put, List.getElem_toArray, List.getElem_cons_succ, List.getElem_cons_zero, List.setIfInBounds_toArray, List.set_cons_succ, List.set_cons_zero]
          refine wpAnyL_take (i := 10) (f0 := 23) (v := ?_) rfl (by decide +kernel) (by decide +kernel) (by decide +kernel) (by decide +kernel) (by decide +kernel) (fun _ _ _ h => h) (Or.inl ⟨by rfl, ?_⟩) hR2 ?_
          rotate_left
          · intro wS hS; go_simp; (try with_reducible rfl)
          simp only [Act.put, List.getElem_toArray, List.getElem_cons_succ, List.getElem_cons_zero, List.setIfInBounds_toArray, List.set_cons_succ, List.set_cons_zero]
          refine wpAnyL_take (i := 11) (f0 := 23) (v := ?_) rfl (by decide +kernel) (by decide +kernel) (by decide +kernel) (by decide +kernel) (by decide +kernel) (fun _ _ _ h => h) (Or.inl ⟨by rfl, ?_⟩) hR2 ?_
          rotate_left
          · intro wS hS; go_simp; (try with_reducible rfl)
          simp only [Act.put, List.getElem_toArray, List.getElem_cons_succ, List.getElem_cons_zero, List.setIfInBounds_toArray, List.set_cons_succ, List.set_cons_zero]
          refine wpAnyL_take (i := 12) (f0 := 23) (v := ?_) rfl (by decide +kernel) (by decide +kernel) (by decide +kernel) (by decide +kernel) (by decide +kernel) (fun _ _ _ h => h) (Or.inl ⟨by rfl, ?_⟩) hR2 ?_
          rotate_left
          · intro wS hS; go_simp; (try with_reducible rfl)
          simp only [Act.put, List.getElem_toArray, List.getElem_cons_succ, List.getElem_cons_zero, List.setIfInBounds_toArray, List.set_cons_succ, List.set_cons_zero]
          refine wpAnyL_take (i := 13) (f0 := 23) (v := ?_) rfl (by decide +kernel) (by decide +kernel) (by decide +kernel) (by decide +kernel) (by decide +kernel) (fun _ _ _ h => h) (Or.inl ⟨by rfl, ?_⟩) hR2 ?_
          rotate_left
          · intro wS hS; have c9 := (iCells2 hS).1; go_simp; (try with_reducible rfl)
          simp only [Act.put, List.getElem_toArray, List.getElem_cons_succ, List.getElem_cons_zero, List.setIfInBounds_toArray, List.set_cons_succ, List.set_cons_zero]
          refine wpAnyL_one (i := 4) (by decide +kernel) (by rfl) (fun K hK => ?_)
          rw [if_pos (by rfl)]
          go_simp
          refine (until_any wr.heap.size t1 (by omega) ⟨#[32]⟩ [32] rfl (by decide) (by decide) (by decide) x2 hX2.sc.inp).mono ?_
          rintro e x3 ⟨rfl, hi3, ho3⟩
          have hX3 := hX2.unt ho3 hi3
          have hq2 := unt_size [32] t1
          obtain ⟨idv, hw2⟩ : ∃ s, unt1 [32] t1 = s := ⟨_, rfl⟩
          obtain ⟨t2, ht2⟩ : ∃ s, unt2 [32] t1 = s := ⟨_, rfl⟩
          rw [hw2] at hq2 ⊢
          rw [ht2] at hX3 hq2
          have HW2 := hide hw2; have HT2 := hide ht2
          have hR3 := hX3.row
          refine hK.out _ _ (Or.inr hR3) ?_
          clear hK K hX2 hR2 hi3 ho3 hw2 ht2
          try simp only [Act.put, List.getElem_toArray, List.getElem_cons_succ, List.getElem_cons_zero, List.setIfInBounds_toArray, List.set_cons_succ, List.set_cons_zero]
          refine wpAnyL_take (i := 15) (f0 := 23) (v := ?_) rfl (by decide +kernel) (by decide +kernel) (by decide +kernel) (by decide +kernel) (by decide +kernel) (fun _ _ _ h => h) (Or.inl ⟨by rfl, ?_⟩) hR3 ?_
          rotate_left
          · intro wS hS; go_simp; (try with_reducible rfl)
          simp only [Act.put, List.getElem_toArray, List.getElem_cons_succ, List.getElem_cons_zero, List.setIfInBounds_toArray, List.set_cons_succ, List.set_cons_zero]
          refine wpAnyL_one (i := 9) (by decide +kernel) (by rfl) (fun K hK => ?_)
          rw [if_pos (by rfl)]
          go_simp
          refine (until_any wr.heap.size t2 (by omega) ⟨#[32]⟩ [32] rfl (by decide) (by decide) (by decide) x3 hX3.sc.inp).mono ?_
          rintro e x4 ⟨rfl, hi4, ho4⟩
          have hX4 := hX3.unt ho4 hi4
          have hq3 := unt_size [32] t2
          obtain ⟨pv, hw3⟩ : ∃ s, unt1 [32] t2 = s := ⟨_, rfl⟩
          obtain ⟨t3, ht3⟩ : ∃ s, unt2 [32] t2 = s := ⟨_, rfl⟩
          rw [hw3] at hq3 ⊢
          rw [ht3] at hX4 hq3
          have HW3 := hide hw3; have HT3 := hide ht3
          have hR4 := hX4.row
          refine hK.out _ _ (Or.inr hR4) ?_
          clear hK K hX3 hR3 hi4 ho4 hw3 ht3
          try simp only [Act.put, List.getElem_toArray, List.getElem_cons_succ, List.getElem_cons_zero, List.setIfInBounds_toArray, List.set_cons_succ, List.set_cons_zero]
          refine wpAnyL_one (i := 14) (by decide +kernel) (by rfl) (fun K hK => ?_)
          rw [if_pos (by rfl)]
          go_simp
          refine (until_any wr.heap.size t3 (by omega) ⟨#[32, 10]⟩ [32, 10] rfl (by decide) (by decide) (by decide) x4 hX4.sc.inp).mono ?_
          rintro e x5 ⟨rfl, hi5, ho5⟩
          have hX5 := hX4.unt ho5 hi5
          have hq4 := unt_size [32, 10] t3
          obtain ⟨nv, hw4⟩ : ∃ s, unt1 [32, 10] t3 = s := ⟨_, rfl⟩
          obtain ⟨t4, ht4⟩ : ∃ s, unt2 [32, 10] t3 = s := ⟨_, rfl⟩
          rw [hw4] at hq4 ⊢
          rw [ht4] at hX5 hq4
          have HW4 := hide hw4; have HT4 := hide ht4
          have hR5 := hX5.row
          refine hK.out _ _ (Or.inr hR5) ?_
          clear hK K hX4 hR4 hi5 ho5 hw4 ht4
          try simp only [Act.put, List.getElem_toArray, List.getElem_cons_succ, List.getElem_cons_zero, List.setIfInBounds_toArray, List.set_cons_succ, List.set_cons_zero]
          refine wpAnyL_one (i := 16) (by decide +kernel) (by rfl) (fun K hK => ?_)
          rw [if_pos (by rfl)]
          have cc := hX5.cells
          obtain ⟨c0, c1, c2, c3, c4, c5, c6⟩ := cc
          have fz := hX5.fz 1
          go_simp
          have hX6 := hX5.set 1 (.string idv) ⟨2, idv, ⟨#[]⟩, ⟨#[]⟩, ⟨#[]⟩, ⟨#[]⟩, false⟩ rfl
          generalize x5.setCell ⟨wr.heap.size + 1 + 1, 1, none⟩ (.string idv) = x6 at *
          have hR6 := hX6.row
          refine hK.out _ _ (Or.inr hR6) ?_
          clear hK K hX5 hR5 c0 c1 c2 c3 c4 c5 c6 fz
          try simp only [Act.put, List.getElem_toArray, List.getElem_cons_succ, List.getElem_cons_zero, List.setIfInBounds_toArray, List.set_cons_succ, List.set_cons_zero]
          refine wpAnyL_take (i := 17) (f0 := 23) (v := ?_) rfl (by decide +kernel) (by decide +kernel) (by decide +kernel) (by decide +kernel) (by decide +kernel) (fun _ _ _ h => h) (Or.inl ⟨by rfl, ?_⟩) hR6 ?_
          rotate_left
          · intro wS hS; go_simp; (try with_reducible rfl)
          simp only [Act.put, List.getElem_toArray, List.getElem_cons_succ, List.getElem_cons_zero, List.setIfInBounds_toArray, List.set_cons_succ, List.set_cons_zero]
          refine wpAnyL_one (i := 18) (by decide +kernel) (by rfl) (fun K hK => ?_)
          rw [if_pos (by rfl)]
          have cc := hX6.cells
          obtain ⟨c0, c1, c2, c3, c4, c5, c6⟩ := cc
          have fz := hX6.fz 2
          go_simp
          have hX7 := hX6.set 2 (.string pv) ⟨2, idv, pv, ⟨#[]⟩, ⟨#[]⟩, ⟨#[]⟩, false⟩ rfl
          generalize x6.setCell ⟨wr.heap.size + 1 + 1, 2, none⟩ (.string pv) = x7 at *
          have hR7 := hX7.row
          refine hK.out _ _ (Or.inr hR7) ?_
          clear hK K hX6 hR6 c0 c1 c2 c3 c4 c5 c6 fz
          try simp only [Act.put, List.getElem_toArray, List.getElem_cons_succ, List.getElem_cons_zero, List.setIfInBounds_toArray, List.set_cons_succ, List.set_cons_zero]
          refine wpAnyL_take (i := 19) (f0 := 23) (v := ?_) rfl (by decide +kernel) (by decide +kernel) (by decide +kernel) (by decide +kernel) (by decide +kernel) (fun _ _ _ h => h) (Or.inl ⟨by rfl, ?_⟩) hR7 ?_
          rotate_left
          · intro wS hS; go_simp; (try with_reducible rfl)
          simp only [Act.put, List.getElem_toArray, List.getElem_cons_succ, List.getElem_cons_zero, List.setIfInBounds_toArray, List.set_cons_succ, List.set_cons_zero]
          refine wpAnyL_one (i := 20) (by decide +kernel) (by rfl) (fun K hK => ?_)
          rw [if_pos (by rfl)]
          have cc := hX7.cells
          obtain ⟨c0, c1, c2, c3, c4, c5, c6⟩ := cc
          have fz := hX7.fz 3
          go_simp
          have hX8 := hX7.set 3 (.string nv) ⟨2, idv, pv, nv, ⟨#[]⟩, ⟨#[]⟩, false⟩ rfl
          generalize x7.setCell ⟨wr.heap.size + 1 + 1, 3, none⟩ (.string nv) = x8 at *
          have hR8 := hX8.row
          refine hK.out _ _ (Or.inr hR8) ?_
          clear hK K hX7 hR7 c0 c1 c2 c3 c4 c5 c6 fz
          try simp only [Act.put, List.getElem_toArray, List.getElem_cons_succ, List.getElem_cons_zero, List.setIfInBounds_toArray, List.set_cons_succ, List.set_cons_zero]
          refine wpAnyL_done (by decide +kernel) ?_ _
          refine NoPanic.normal ?_
          obtain ⟨c0, c1, c2, c3, c4, c5, c6⟩ := hX8.cells
          have fz := hX8.fz 2
          go_upto_if 62 with (fail)
          clear hR8
          go_cut [] (fun wx => PI wr.heap.size wr line t4 ⟨2, idv, dashB pv, nv, ⟨#[]⟩, ⟨#[]⟩, false⟩ wx)
          case first =>
            go_wp2_with fail
            · go_meet
              rw [dashB_yes (s := pv) (of_toL (by assumption))]
              exact hX8.set 2 (.string ⟨#[]⟩) _ rfl
            · go_meet
              rw [dashB_no (s := pv) (of_toLn (by assumption))]
              exact hX8
          case rest =>
            have hX9 := hcut
            clear hX8 hcut c0 c1 c2 c3 c4 c5 c6 fz
            have hR9 := hX9.row
            obtain ⟨c0, c1, c2, c3, c4, c5, c6⟩ := hX9.cells
            have fz := hX9.fz 3
            go_upto_if 66 with (fail)
            clear hR9
            go_cut [] (fun wx => PI wr.heap.size wr line t4 ⟨2, idv, dashB pv, dashB nv, ⟨#[]⟩, ⟨#[]⟩, false⟩ wx)
            case first =>
              go_wp2_with fail
              · go_meet
                rw [dashB_yes (s := nv) (of_toL (by assumption))]
                exact hX9.set 3 (.string ⟨#[]⟩) _ rfl
              · go_meet
                rw [dashB_no (s := nv) (of_toLn (by assumption))]
                exact hX9
            case rest =>
              have hX10 := hcut
              clear hX9 hcut c0 c1 c2 c3 c4 c5 c6 fz
              obtain ⟨c0, c1, c2, c3, c4, c5, c6⟩ := hX10.cells
              have fz := hX10.fz 6
              go_upto_if 72 with (fail)
              have hX11 := hX10.set 6 (.bool (wd.toList == [114, 101, 112, 101, 97, 108, 101, 100])) ⟨2, idv, dashB pv, dashB nv, ⟨#[]⟩, ⟨#[]⟩, (wd.toList == [114, 101, 112, 101, 97, 108, 101, 100])⟩ rfl
              generalize wc.setCell ⟨wr.heap.size + 1 + 1, 6, none⟩ (.bool (wd.toList == [114, 101, 112, 101, 97, 108, 101, 100])) = xa at *
              have PE := line_eq line t1 t2 t3 t4 HT1.out HT2.out HT3.out HT4.out
              rw [HWD.out, HW2.out, HW3.out, HW4.out] at PE
              have HPE := hide PE
              clear PE hX10 c0 c1 c2 c3 c4 c5 c6 fz
              obtain ⟨c0, c1, c2, c3, c4, c5, c6⟩ := hX11.cells
              have fz := hX11.fz 0
              go_cut [] (fun wx => ∃ r', PI wr.heap.size wr line r' (Dg.parseLineP (Dg.L line)) wx)
              case first =>
                go_wp2_with fail
                · go_meet
                  have hd : Dg.L wd = Dg.wDiv := of_toL (by assumption)
                  have hg : (wd.toList == [114, 101, 112, 101, 97, 108, 101, 100]) = false := toL_no (by rw [hd]; decide)
                  rw [HPE.out, if_pos hd]
                  rw [hg] at hX11
                  exact ⟨_, hX11.set 0 (.int .i64 1) _ rfl⟩
                · have hd : Dg.L wd ≠ Dg.wDiv := of_toLn (by assumption)
                  have HD := hide hd
                  clear hd
                  obtain ⟨p1, e1⟩ := tail_of HT1.out
                  obtain ⟨p2, e2⟩ := tail_of HT2.out
                  obtain ⟨p3, e3⟩ := tail_of HT3.out
                  obtain ⟨p4, e4⟩ := tail_of HT4.out
                  have epre : Dg.L line = (p1 ++ (p2 ++ (p3 ++ p4))) ++ Dg.L t4 := by rw [e1, e2, e3, e4]; simp
                  obtain ⟨G1, G2, hG⟩ : ∃ G1 G2, Dg.quoteP (Dg.L t4) = (G1, G2) := ⟨_, _, rfl⟩
                  obtain ⟨H1, H2, hH⟩ : ∃ H1 H2, Dg.quoteP G2 = (H1, H2) := ⟨_, _, rfl⟩
                  obtain ⟨q5, e5⟩ := quote_tail (Dg.L t4)
                  rw [hG] at e5
                  have epre2 : Dg.L line = ((p1 ++ (p2 ++ (p3 ++ p4))) ++ q5) ++ Dg.L (Dg.B G2) := by rw [epre, Dg.L_B, show Dg.L t4 = q5 ++ G2 from e5]; simp
                  have HG := hide hG; have HH := hide hH; have HP2 := hide epre2
                  clear e1 e2 e3 e4 e5 hG hH epre2 c0 c1 c2 c3 c4 c5 c6 fz
                  refine (quote_any (wr.heap.size + 1) wr.heap.size (by omega) line t4 hls _ epre xa hX11.sc G1 G2 HG.out).mono ?_
                  rintro e xb ⟨rfl, hsb, hob⟩
                  have hXb := hX11.unt hob hsb.inp
                  clear hX11 hsb hob epre
                  have hRb := iCells2 hXb.sc.sc
                  obtain ⟨cb1, cb2⟩ := hRb
                  go_wp2_with fail
                  refine (quote_any (wr.heap.size + 1) wr.heap.size (by omega) line (Dg.B G2) hls _ HP2.out xb hXb.sc H1 H2 (by rw [Dg.L_B]; exact HH.out)).mono ?_
                  rintro e xd ⟨rfl, hsd, hod⟩
                  have hXd := hXb.unt hod hsd.inp
                  clear hXb hsd hod cb1 cb2
                  obtain ⟨c0, c1, c2, c3, c4, c5, c6⟩ := hXd.cells
                  have fz4 := hXd.fz 4
                  have fz5 := hXd.fz 5
                  go_wp2_with fail
                  go_meet
                  rw [HPE.out, if_neg HD.out, HG.out]
                  simp only
                  rw [HH.out]
                  have hXe := hXd.set 4 (.string (Dg.B G1)) ⟨2, idv, dashB pv, dashB nv, Dg.B G1, ⟨#[]⟩, (wd.toList == [114, 101, 112, 101, 97, 108, 101, 100])⟩ rfl
                  have hXf := hXe.set 5 (.string (Dg.B H1)) ⟨2, idv, dashB pv, dashB nv, Dg.B G1, Dg.B H1, (wd.toList == [114, 101, 112, 101, 97, 108, 101, 100])⟩ rfl
                  rw [toL_dec] at hXf
                  exact ⟨_, hXf⟩
              case rest =>
                obtain ⟨t9, hX9⟩ := hcut
                clear hX11 c0 c1 c2 c3 c4 c5 c6 fz
                obtain ⟨y, hy⟩ : ∃ y, Dg.parseLineP (Dg.L line) = y := ⟨_, rfl⟩
                rw [hy] at hX9
                have HY := hide hy
                clear hy
                obtain ⟨c0, c1, c2, c3, c4, c5, c6⟩ := hX9.cells
                have hn9 := Below.news (Below.refl wc.heap.size wc) (.cells #[.int .i64 y.kind, .string y.id, .string y.parent, .string y.number, .string y.north, .string y.south, .bool y.gone] 31)
                have hrc9 := iNext hS.rc hX9.bl
                have hr29 := iNext hS.r2 hX9.bl
                have hOX : OwnI wc B0 (.slice AI n cI) l0 := by rw [← HL0.out]; exact OwnI.below hS.own hX9.bl
                have hPX : Strs wc B0 (some ⟨b9, 0, none⟩) (piecesB t) := hS.pcs.below (hX9.bl.mono (by exact hS.sz))
                have hBX : Below w.heap.size w wc := hS.bl.trans (hX9.bl.mono hS.bl.size)
                have hszX : B0 ≤ wc.heap.size := Nat.le_trans hS.sz hX9.bl.size
                have hOY := OwnI.below hOX hn9
                have hrcY := iNext hrc9 hn9
                have hr2Y := iNext hr29 hn9
                have hPY := hPX.below (hn9.mono hszX)
                have hBY := hBX.trans (hn9.mono hBX.size)
                have hszY := Nat.le_trans hszX hn9.size
                have hsrc : SrcI (wc.alloc (.cells #[.int .i64 y.kind, .string y.id, .string y.parent, .string y.number, .string y.north, .string y.south, .bool y.gone] 31)) (some ⟨wc.heap.size, 0, none⟩) [y] := src_item y
                have hneY := own_ne hOY hrcY
                have hne2 := own_ne hOY hr2Y
                have HOY := hide hOY; have HRCY := hide hrcY; have HR2Y := hide hr2Y; have HPY := hide hPY; have HBY := hide hBY; have HSZ := hide hszY; have HSRC := hide hsrc; have HNE := hide hneY; have HNE2 := hide hne2
                have hc1 := iCells0 hrc9
                have hb0 := hide hS.b0
                clear hX9 hn9 hrc9 hr29 hOX hPX hBX hszX hOY hrcY hr2Y hPY hBY hszY hsrc hneY hne2 hS hIt
                go_wp2_with (at_builtin; refine step_ai rfl (.tmp 81) (.tmp 83) rfl B0 _ l0 [y] rfl HOY.out (some ⟨wc.heap.size, 0, none⟩) 1 1 rfl rfl HSRC.out (by rw [HNL.out]; omega) HSZ.out ?_; intro v5 u5 hO5 hB5 hg5; obtain ⟨g5, cp5, e5, _, _, _, _⟩ := hO5.full (by simp); rw [show (l0 ++ [y]).length = n + 1 by rw [List.length_append, HNL.out]; rfl] at e5; subst e5; have hr5 := grown_row hg5 HRCY.out HNE.out; have hr52 := grown_row hg5 HR2Y.out HNE2.out; have hc5 := iCells0 hr5; have fz5 := frozen_of_row _ _ 0 _ _ hr5)
                go_roundw
                case rel =>
                  have hbb := hb0.out
                  refine ⟨k + 1, _, by omega, by go_num, ⟨(Below.heap_setCell _ _ _ _ (show w.heap.size ≠ w.heap.size + 1 by omega)).trans hr52, setCell_row1 hr5 _, ?_, strs_set (HPY.out.below hB5) (by have := HB9.out; omega) _, (HBY.out.trans (hB5.mono (by omega))).setCell (p := ⟨w.heap.size + 1, 0, none⟩) (by show w.heap.size ≤ w.heap.size + 1; omega) _, Nat.le_trans (Nat.le_trans HSZ.out hB5.size) (by simp [World.setCell]), hbb, ?_⟩⟩
                  · rw [HSU.out, if_neg HZ0.out, HY.out]
                    exact hO5.far hr5 _
                  · rw [HSU.out, if_neg HZ0.out, HY.out, List.length_append, HNL.out]
                    show n + 1 ≤ 2001
                    omega
                case measure => simp [intOf]; omega
    · obtain rfl : k = N := by omega
      have hl : l0 = Dg.parseP (Dg.L t) := by rw [← HL0.out, ← HN.out, itemsTo_all t (piecesB t) rfl]
      have hfew := hS.few
      rw [HL0.out, HNL.out] at hfew
      obtain ⟨S, E', hT⟩ : ∃ S E', Dg.textC l0 = (S, E') := ⟨_, _, rfl⟩
      have hz := HZ.out
      rw [← hl] at hz
      have hk := parse_kinds (Dg.L t)
      rw [← hl] at hk
      have hB := parseO_back hs hl hT
      rw [HO.out] at hB
      have hOw := hS.own
      rw [HL0.out] at hOw
      have HHB := hide hB; have HT := hide hT; have HW := hide (items_w hk hz); have HZ2 := hide hz
      clear hB hT hz hk hl HO HZ
      go_wp2_with fail
      refine (Code.text_of l0 AI n cI HNL.out HW.out (by omega) wr hIt HZ2.out S E' HT.out).mono ?_
      rintro e w9 ⟨rfl, hb9⟩
      have hr2 := iNext hS.r2 hb9
      have hrc := iNext hS.rc hb9
      have hO9 := OwnI.below hOw hb9
      have hBl := hS.bl.trans (hb9.mono hS.bl.size)
      clear hS hIt hOw hb9
      have hc1 := iCells0 hrc
      have hc2 := iCells0 hr2
      have fz2 := frozen_of_row _ _ 0 _ _ hr2
      by_cases hgood : E' = 0 ∧ S = t
      · obtain ⟨rfl, rfl⟩ := hgood
        have h9 := HHB.out
        rw [if_pos ⟨rfl, rfl⟩] at h9
        cases h9
        have eqT : (S.toList == S.toList) = true := beq_self_eq_true _
        go_wp2
        refine bodyPost_ret (results_ct9 Tryz.results24 _ _ w.heap.size 24 #[.slice AI n cI] (0, 0) _ rfl (setCell_row1 hr2 (.slice AI n cI)) Tryz.underlying24 (by kernel_rfl)) rfl ⟨⟨AI, cI, ?_, ?_, ?_⟩, hBl.setCell (p := ⟨w.heap.size, 0, none⟩) (Nat.le_refl _) _⟩
        · rw [HNL.out]; rfl
        · rw [HNL.out]; exact hcI
        · exact (hO9.far hr2 _).it'
      · have h9 := HHB.out
        rw [if_neg hgood] at h9
        cases h9
        have hret : ∀ a : Act, a.tmps.getD 3 undef = .int .i64 5 → True := fun _ _ => trivial
        by_cases hE0 : E' = 0
        · subst hE0
          have hne : S ≠ t := fun e => hgood ⟨rfl, e⟩
          have eqT : (S.toList == t.toList) = false := tl_no hne
          clear hgood HHB hne hret
          go_wp2
          refine bodyPost_ret (results_ct9 Tryz.results24 _ _ w.heap.size 24 #[.slice none 0 0] (0, 0) _ rfl (setCell_row1 hr2 (.slice none 0 0)) Tryz.underlying24 (by kernel_rfl)) rfl ⟨⟨none, 0, rfl, Nat.le_refl _, Its.nil _ _ _⟩, hBl.setCell (p := ⟨w.heap.size, 0, none⟩) (Nat.le_refl _) _⟩
        · have hbn : (E' != 0) = true := bne_iff_ne.2 hE0
          clear hgood HHB hret HT
          go_wp2
          refine bodyPost_ret (results_ct9 Tryz.results24 _ _ w.heap.size 24 #[.slice none 0 0] (0, 0) _ rfl (setCell_row1 hr2 (.slice none 0 0)) Tryz.underlying24 (by kernel_rfl)) rfl ⟨⟨none, 0, rfl, Nat.le_refl _, Its.nil _ _ _⟩, hBl.setCell (p := ⟨w.heap.size, 0, none⟩) (Nat.le_refl _) _⟩
end Go.Proofs.YtpldhempbdionaaGreatDoor
/- CodeBeginnings. No conditions but those that each theorem states. -/
namespace Go.Proofs.YtpldhempbdionaaGreatDoor
open Go Go.RowKit Go.Sort Go.Maps
theorem same_refl (l : List ByteArray) : Dg.same l l = true := by
  unfold Dg.same
  simp
end Go.Proofs.YtpldhempbdionaaGreatDoor
/- How long what a text is read as can be; texts tell codes apart. No conditions but those that each theorem states. -/
namespace Go.Proofs.YtpldhempbdionaaGreatDoor
open Go Go.RowKit Go.Sort Go.Maps
theorem lines_le : ∀ (t : List UInt8), ∀ l ∈ Dg.linesP t, l.length ≤ t.length
  | [], l, h => by cases h
  | c :: r, l, h => by
    rw [Dg.linesP] at h
    split at h
    · rcases List.mem_cons.1 h with rfl | h
      · simp
      · have := lines_le r l h
        simp only [List.length_cons]; omega
    · cases hl : Dg.linesP r with
      | nil =>
        rw [hl] at h
        rw [List.mem_singleton.1 h]
        simp
      | cons a ls =>
        rw [hl] at h
        have h1 := lines_le r
        rw [hl] at h1
        rcases List.mem_cons.1 h with rfl | h
        · have := h1 a (List.mem_cons_self ..)
          simp only [List.length_cons]; omega
        · have := h1 l (List.mem_cons_of_mem _ h)
          simp only [List.length_cons]; omega
theorem inside_le : ∀ (f : Nat) (r : List UInt8), (Dg.insideP f r).1.length + (Dg.insideP f r).2.length ≤ r.length
  | 0, r => by show 0 + r.length ≤ _; omega
  | f + 1, r => by
    have h := Dg.until_le [92, 34] r
    rw [Dg.insideP]
    cases hu : (Dg.untilP [92, 34] r).2 with
    | nil => rw [hu] at h; simpa using h
    | cons c r' =>
      rw [hu] at h
      simp only [List.length_cons] at h
      simp only
      split
      · have := inside_le f r'
        simp only [List.length_append, List.length_cons]
        omega
      · simp only [List.length_cons]; omega
theorem quote_le (r : List UInt8) : (Dg.quoteP r).1.length + (Dg.quoteP r).2.length ≤ r.length := by
  have h1 := Dg.until_le [34] r
  have h2 := inside_le r.length (Dg.untilP [34] r).2
  unfold Dg.quoteP
  simp only [List.length_tail]
  omega
theorem dash_le (l : List UInt8) : (Dg.dashL l).size ≤ l.length := by
  unfold Dg.dashL
  split
  · exact Nat.zero_le _
  · exact Nat.le_refl _
theorem kindW_size (x : Dg.It) : (Dg.kindW x).size = 1 := by
  unfold Dg.kindW
  split
  · rfl
  · split <;> rfl
theorem parse_fields (l : List UInt8) : ∀ s ∈ Dg.fieldsI (Dg.parseLineP l), s.size ≤ l.length + 1 := fun s hs => by
  have h1 := Dg.until_le [32] l
  have h2 := Dg.until_le [32] (Dg.untilP [32] l).2
  have h3 := Dg.until_le [32] (Dg.untilP [32] (Dg.untilP [32] l).2).2
  have h4 := Dg.until_le [32, 10] (Dg.untilP [32] (Dg.untilP [32] (Dg.untilP [32] l).2).2).2
  have h5 := quote_le (Dg.untilP [32, 10] (Dg.untilP [32] (Dg.untilP [32] (Dg.untilP [32] l).2).2).2).2
  have h6 := quote_le (Dg.quoteP (Dg.untilP [32, 10] (Dg.untilP [32] (Dg.untilP [32] (Dg.untilP [32] l).2).2).2).2).2
  have d1 := dash_le (Dg.untilP [32] (Dg.untilP [32] (Dg.untilP [32] l).2).2).1
  have d2 := dash_le (Dg.untilP [32, 10] (Dg.untilP [32] (Dg.untilP [32] (Dg.untilP [32] l).2).2).2).1
  have hB : ∀ m : List UInt8, (Dg.B m).size = m.length := fun _ => rfl
  unfold Dg.fieldsI at hs
  rcases List.mem_cons.1 hs with rfl | hs
  · rw [kindW_size]; omega
  · unfold Dg.parseLineP at hs
    simp only at hs
    split at hs <;>
      (simp only [List.mem_cons, List.not_mem_nil, or_false] at hs
       rcases hs with rfl | rfl | rfl | rfl | rfl <;> first | (rw [hB]; omega) | (refine Nat.le_trans d1 ?_; omega) | (refine Nat.le_trans d2 ?_; omega) | exact Nat.zero_le _)
theorem parse_small {t : ByteArray} {z : Nat} (hz : t.size + 1 ≤ z) : ∀ x ∈ Dg.parseP (Dg.L t), ∀ s ∈ Dg.fieldsI x, s.size ≤ z := fun x hx s hs => by
  unfold Dg.parseP at hx
  obtain ⟨l, hl, rfl⟩ := List.mem_map.1 hx
  have h1 := parse_fields l s hs
  have h2 := lines_le _ l hl
  rw [Dg.len_L] at h2
  omega
end Go.Proofs.YtpldhempbdionaaGreatDoor
/- The reference's scanner: where it stands; what a code's text is told by. No conditions but those that each theorem states. -/
namespace Go.Proofs.YtpldhempbdionaaGreatDoor
open Go Go.RowKit Go.Sort Go.Maps
theorem wordU_tail : ∀ r : List UInt8, (∃ p, r = p ++ (Dg.wordU r).2) ∧ (Dg.wordU r).1.length ≤ r.length
  | [] => ⟨⟨[], rfl⟩, Nat.le_refl _⟩
  | c :: r => by
    obtain ⟨⟨p, hp⟩, hl⟩ := wordU_tail r
    rw [Dg.wordU]
    split
    · exact ⟨⟨[], rfl⟩, Nat.zero_le _⟩
    · refine ⟨⟨c :: p, ?_⟩, by simp only [List.length_cons]; omega⟩
      conv => lhs; rw [hp]
      rfl
theorem wordQ_tail : ∀ (f : Nat) (r : List UInt8), (∃ p, r = p ++ (Dg.wordQ f r).2) ∧ (Dg.wordQ f r).1.length ≤ r.length
  | 0, r => ⟨⟨[], rfl⟩, Nat.zero_le _⟩
  | f + 1, [] => ⟨⟨[], rfl⟩, Nat.zero_le _⟩
  | f + 1, [c] => by
    rw [Dg.wordQ]
    split
    · exact ⟨⟨[c], by simp⟩, Nat.zero_le _⟩
    · exact ⟨⟨[c], by simp⟩, Nat.le_refl _⟩
  | f + 1, c :: d :: r => by
    rw [Dg.wordQ]
    split
    · obtain ⟨⟨p, hp⟩, hl⟩ := wordQ_tail f r
      refine ⟨⟨c :: d :: p, ?_⟩, by simp only [List.length_cons]; omega⟩
      conv => lhs; rw [hp]
      rfl
    · split
      · exact ⟨⟨[c], rfl⟩, Nat.zero_le _⟩
      · obtain ⟨⟨p, hp⟩, hl⟩ := wordQ_tail f (d :: r)
        refine ⟨⟨c :: p, ?_⟩, by simp only [List.length_cons] at hl ⊢; omega⟩
        conv => lhs; rw [hp]
        rfl
theorem wordR_tail (q : Bool) (r : List UInt8) : (∃ p, r = p ++ (Dg.wordR q r).2) ∧ (Dg.wordR q r).1.length ≤ r.length := by
  unfold Dg.wordR
  cases q with
  | false => exact wordU_tail r
  | true =>
    rw [if_pos rfl]
    obtain ⟨⟨p, hp⟩, hl⟩ := wordQ_tail r.length r.tail
    have ht : r.tail.length ≤ r.length := by rw [List.length_tail]; omega
    refine ⟨?_, by omega⟩
    cases r with
    | nil => exact ⟨p, hp⟩
    | cons a r => exact ⟨a :: p, congrArg (a :: ·) hp⟩
/-- Where the scanner stands behind a word. -/
theorem word_pos {t : ByteArray} {a : Nat} {R : List UInt8} (h : ∃ p, (Dg.L t).drop a = p ++ R) : R.length ≤ t.size ∧ (Dg.L t).drop (t.size - R.length) = R := by
  obtain ⟨p, hp⟩ := h
  have h1 : Dg.L t = ((Dg.L t).take a ++ p) ++ R := by rw [List.append_assoc, ← hp, List.take_append_drop]
  obtain ⟨x, hx⟩ : ∃ x, (Dg.L t).take a ++ p = x := ⟨_, rfl⟩
  rw [hx] at h1
  have h2 : t.size = x.length + R.length := by rw [← Dg.len_L, ← List.length_append, ← h1]
  refine ⟨by omega, ?_⟩
  rw [show t.size - R.length = x.length by omega, h1]
  exact List.drop_left
theorem drop_tail {l : List UInt8} {n : Nat} {R : List UInt8} (h : l.drop n = R) : l.drop (n + 1) = R.tail := by rw [← h, List.tail_drop]
theorem good_iff {t : ByteArray} (hz : t.size ≤ 1000000) {l : List Dg.It} {S : ByteArray} {E : Int} (hS : Dg.textC l = (S, E)) : Dg.goodT (Dg.L t) l ↔ (E = 0 ∧ S = t) := by
  unfold Dg.textC at hS
  by_cases hv : Dg.validC l = true
  · rw [if_pos hv] at hS
    split at hS
    · rename_i hb
      cases hS
      constructor
      · rintro ⟨_, h2⟩
        rw [h2, Dg.len_L] at hb
        omega
      · exact fun h => absurd h.1 (by decide)
    · cases hS
      constructor
      · rintro ⟨_, h2⟩
        exact ⟨rfl, by rw [h2, Dg.B_L]⟩
      · rintro ⟨_, h2⟩
        exact ⟨hv, congrArg Dg.L h2⟩
  · rw [if_neg hv] at hS
    cases hS
    constructor
    · exact fun h => absurd h.1 hv
    · exact fun h => absurd h.1 (by decide)
theorem itemR_ok {ws : List (List UInt8)} {z : Nat} (hz : 1 ≤ z) (h : ∀ w ∈ ws, w.length ≤ z) : ((Dg.itemR ws).kind = 1 ∨ (Dg.itemR ws).kind = 2) ∧ ∀ s ∈ Dg.fieldsI (Dg.itemR ws), s.size ≤ z := by
  have hg : ∀ i, (ws.getD i []).length ≤ z := fun i => by
    rw [List.getD_eq_getElem?_getD]
    cases hi : ws[i]? with
    | none => exact Nat.zero_le _
    | some w => exact h w (List.mem_of_getElem? hi)
  have hB : ∀ m : List UInt8, (Dg.B m).size = m.length := fun _ => rfl
  have hd : ∀ i, (Dg.dashL (ws.getD i [])).size ≤ z := fun i => Nat.le_trans (dash_le _) (hg i)
  constructor
  · unfold Dg.itemR
    split
    · exact Or.inl rfl
    · exact Or.inr rfl
  · intro s hs
    unfold Dg.fieldsI at hs
    rcases List.mem_cons.1 hs with rfl | hs
    · rw [kindW_size]; exact hz
    · unfold Dg.itemR at hs
      split at hs <;>
        (simp only [List.mem_cons, List.not_mem_nil, or_false] at hs
         rcases hs with rfl | rfl | rfl | rfl | rfl <;> first | (rw [hB]; exact hg _) | exact hd _ | exact Nat.zero_le _)
theorem wordsR_div : ∀ (f k : Nat) (ws : List (List UInt8)) (r : List UInt8) (WS : List (List UInt8)) (RR : List UInt8), Dg.wordsR f k ws r = (WS, RR) → ws.length = k → (k ≤ 4 ∨ ws.head? ≠ some Dg.wDiv) → WS.length ≤ 4 ∨ WS.head? ≠ some Dg.wDiv
  | 0, k, ws, r, WS, RR, h, hl, hd => by
    rw [Dg.wordsR] at h
    cases h
    rw [hl]
    exact hd
  | f + 1, k, ws, r, WS, RR, h, hl, hd => by
    rw [Dg.wordsR] at h
    split at h
    · rename_i hc
      refine wordsR_div f (k + 1) _ _ WS RR h (by rw [List.length_append, hl]; rfl) ?_
      by_cases hk : k + 1 ≤ 4
      · exact Or.inl hk
      · refine Or.inr ?_
        cases ws with
        | nil => simp at hl; omega
        | cons a t =>
          rcases hc.2.2 with h4 | h4
          · omega
          · exact h4
    · cases h
      rw [hl]
      exact hd
/-- What the reference's Parse answers, by what was read. -/
def finO (t : ByteArray) (O : Option (List Dg.It)) : List Dg.It × Int := match O with
  | none => ([], 5)
  | some l => if Dg.goodT (Dg.L t) l then (l, 0) else ([], 5)
theorem parseRO_fin (f : Nat) (t : ByteArray) (hz : t.size ≤ 1000000) : Dg.parseRO f t = finO t (Dg.parseR f [] (Dg.L t)) := by
  unfold Dg.parseRO
  rw [if_neg (by omega)]
  rfl
end Go.Proofs.YtpldhempbdionaaGreatDoor
/- Parse of the reference. No conditions but those that each theorem states. -/
namespace Go.Proofs.YtpldhempbdionaaGreatDoor
open Go Go.RowKit Go.Sort Go.Maps
/-- While items are read. -/
structure RPs (w : World) (t : ByteArray) (O : Option (List Dg.It)) (a : Nat) (v : Value) (its : List Dg.It) (X : World) : Prop where
  r2 : X.heap[w.heap.size]? = some (.cells #[.slice none 0 0] 24 (0, 0))
  rc : X.heap[w.heap.size + 1]? = some (.cells #[v] 24 (0, 0))
  own : OwnI X (w.heap.size + 2) v its
  bl : Below w.heap.size w X
  sz : w.heap.size + 2 ≤ X.heap.size
  few : its.length ≤ 2001
  run : Dg.parseR (2002 - its.length) its ((Dg.L t).drop a) = O
  ok : ∀ x ∈ its, (x.kind = 1 ∨ x.kind = 2) ∧ ∀ s ∈ Dg.fieldsI x, s.size ≤ 10000
/-- While an item is made of words in block g. -/
structure RS (n1 : Nat) (wr : World) (g : Nat) (ws : List ByteArray) (bx : Nat) (x : Dg.It) (X : World) : Prop where
  it : X.heap[bx]? = some (.cells (itV x) 31 (0, 0))
  lw : ∀ (j : Nat) s, ws[j]? = some s → X.cell? ⟨g, j, none⟩ = some (.string s)
  ne : g ≠ bx
  bl : Below n1 wr X
  hb : n1 ≤ bx
theorem RS.set {n1 : Nat} {wr : World} {g : Nat} {ws : List ByteArray} {bx : Nat} {x : Dg.It} {X : World} (h : RS n1 wr g ws bx x X) (j : Nat) (u : Value) (y : Dg.It) (hy : (itV x).setIfInBounds j u = itV y) : RS n1 wr g ws bx y (X.setCell ⟨bx, j, none⟩ u) :=
  ⟨by rw [← hy]; exact setCell_rowN h.it j u, fun i s hs => (World.cell?_setCell_other _ _ _ _ (fun e => h.ne (by injection e with e1; exact e1.symm))).trans (h.lw i s hs), h.ne, h.bl.setCell (p := ⟨bx, j, none⟩) h.hb u, h.hb⟩
theorem RS.cells {n1 : Nat} {wr : World} {g : Nat} {ws : List ByteArray} {bx : Nat} {x : Dg.It} {X : World} (h : RS n1 wr g ws bx x X) : X.cell? ⟨bx, 0, none⟩ = some (.int .i64 x.kind) ∧ X.cell? ⟨bx, 1, none⟩ = some (.string x.id) ∧ X.cell? ⟨bx, 2, none⟩ = some (.string x.parent) ∧ X.cell? ⟨bx, 3, none⟩ = some (.string x.number) ∧ X.cell? ⟨bx, 4, none⟩ = some (.string x.north) ∧ X.cell? ⟨bx, 5, none⟩ = some (.string x.south) ∧ X.cell? ⟨bx, 6, none⟩ = some (.bool x.gone) := iCells h.it
theorem RS.fz {n1 : Nat} {wr : World} {g : Nat} {ws : List ByteArray} {bx : Nat} {x : Dg.It} {X : World} (h : RS n1 wr g ws bx x X) (j : Nat) : X.frozen? ⟨bx, j, none⟩ = false := frozen_of_row _ _ _ _ _ h.it
/-- Words in block g. -/
structure LW (g : Nat) (ws : List ByteArray) (n1 : Nat) (wr : World) (X : World) : Prop where
  lw : ∀ (j : Nat) s, ws[j]? = some s → X.cell? ⟨g, j, none⟩ = some (.string s)
  lt : g < X.heap.size
  bl : Below n1 wr X
  sz : n1 ≤ wr.heap.size
theorem LW.below {g : Nat} {ws : List ByteArray} {n1 : Nat} {wr X X' : World} (h : LW g ws n1 wr X) (hb : Below X.heap.size X X') : LW g ws n1 wr X' :=
  ⟨fun j s hj => (hb.cell (p := ⟨g, j, none⟩) h.lt).trans (h.lw j s hj), Nat.lt_of_lt_of_le h.lt hb.size, h.bl.trans (hb.mono (Nat.le_trans h.sz h.bl.size)), h.sz⟩
set_option maxRecDepth 100000 in
set_option maxHeartbeats 32000000 in
theorem rparse_of (t : ByteArray) (hs : t.size ≤ 9999) (w : World) (l : List Dg.It) (E : Int) (hO : Dg.parseRO 2002 t = (l, E)) :
    Calls Tryz.prog 25 #[.string t] w fun e w' => (∃ A c, e = .returned (.tuple #[.agg #[.slice A l.length c], .int .i64 E]) ∧ l.length ≤ c ∧ Its w' w'.heap.size A l) ∧ Below w.heap.size w w' := by
  have hmx : Tryz.prog.follows .mixedOrders = true := by kernel_rfl
  obtain ⟨r2, rc, hb, hsz⟩ := iAlloc2 w (.cells #[.slice none 0 0] 24) (.cells #[.slice none 0 0] 24)
  have ht : ¬ ((1000000 : Int) < (t.size : Int)) := by omega
  obtain ⟨O, hR⟩ : ∃ O, Dg.parseR 2002 [] (Dg.L t) = O := ⟨_, rfl⟩
  have hfin : finO t O = (l, E) := by rw [← hR, ← parseRO_fin 2002 t (by omega)]; exact hO
  have HF := hide hfin; have HR := hide hR
  clear hO hfin hR
  go_enter Tryz.func25, Tryz.ntmps25
  go_wp2
  have hS0 : RPs w t O 0 (.slice none 0 0) [] ((w.alloc (.cells #[.slice none 0 0] 24)).alloc (.cells #[.slice none 0 0] 24)) := ⟨r2, rc, World.ownsRow_nil _ _ _ _, hb, by omega, by decide, by rw [List.drop_zero]; exact HR.out, fun x hx => by cases hx⟩
  clear r2 rc hb hsz HR
  generalize (w.alloc (.cells #[.slice none 0 0] 24)).alloc (.cells #[.slice none 0 0] 24) = w1 at *
  go_loopg [5, 6, 7, 8, 9] 2002 (fun gh av _ _ _ _ wr => ∃ (a : Nat) (v : Value) (its : List Dg.It), gh + its.length = 2002 ∧ a ≤ t.size + 1 ∧ av = .int .i64 (a : Int) ∧ RPs w t O a v its wr)
  case atStart => exact ⟨0, _, [], rfl, by omega, rfl, hS0⟩
  case round =>
    clear hS0
    obtain ⟨wo, rfl⟩ : ∃ x, x = wr := ⟨_, rfl⟩
    obtain ⟨a, v, its, hgh, haz, rfl, hS⟩ := hrel
    obtain ⟨AI, cI, ev, hcI, hIt⟩ := hS.own.its
    obtain ⟨n, hn⟩ : ∃ n, its.length = n := ⟨_, rfl⟩
    have hfew := hS.few
    rw [hn] at ev hcI hgh hfew
    subst ev
    have HN := hide hn
    clear hn
    have hrc := iCells0 hS.rc
    by_cases ha : a < t.size
    · have hai : (a : Int) < (t.size : Int) := by omega
      by_cases hle : n ≤ 2000
      · have hli : (n : Int) ≤ 2000 := by omega
        obtain ⟨gh, rfl⟩ : ∃ g, gk = g + 1 := ⟨gk - 1, by omega⟩
        obtain ⟨WS, RR, hW⟩ : ∃ WS RR, Dg.wordsR 7 0 [] ((Dg.L t).drop a) = (WS, RR) := ⟨_, _, rfl⟩
        have hrun : (if WS.length < 4 ∨ (WS.length < 6 ∧ WS.getD 0 [] ≠ Dg.wDiv) then none else Dg.parseR (2001 - n) (its ++ [Dg.itemR WS]) RR) = O := by
          have h9 := hS.run
          have h8 : (Dg.L t).drop a ≠ [] := fun e => by have := drop_len t a; rw [e, List.length_nil] at this; omega
          have h7 : its.length ≤ 2000 := by have := HN.out; omega
          rw [show 2002 - its.length = (2001 - n) + 1 by have := HN.out; omega, Dg.parseR, if_pos ⟨h8, h7⟩, hW] at h9
          exact h9
        have HW := hide hW; have HRUN := hide hrun
        clear hW hrun hIt
        go_upto_block 2 with (fail)
        go_cut [5, 6, 7, 8] (fun av lv _ _ wx => ∃ (a' : Nat), av = .int .i64 (a' : Int) ∧ a' ≤ t.size + 1 ∧ (Dg.L t).drop a' = RR ∧ OwnS wx wo.heap.size lv (WS.map Dg.B) ∧ (∀ w ∈ WS, w.length ≤ t.size) ∧ Below wo.heap.size wo wx)
        case first =>
          clear hrc
          go_wp2_with fail
          go_loopg [5, 6, 7, 8] 7 (fun g av lv kv _ wx => ∃ (a' k : Nat) (ws : List (List UInt8)), k ≤ 6 ∧ kv = .int .i64 (k : Int) ∧ k + g = 7 ∧ av = .int .i64 (a' : Int) ∧ a' ≤ t.size + 1 ∧ OwnS wx wo.heap.size lv (ws.map Dg.B) ∧ ws.length = k ∧ Hid (∀ w ∈ ws, w.length ≤ t.size) ∧ Hid (Dg.wordsR g k ws ((Dg.L t).drop a') = (WS, RR)) ∧ Below wo.heap.size wo wx)
          case atStart => exact ⟨a, 0, [], by omega, rfl, rfl, rfl, by omega, OwnS.nil _ _, rfl, fun w hw => (by cases hw), HW.out, Below.refl _ _⟩
          case round =>
            obtain ⟨a', k, ws, hk, rfl, hkg, rfl, ha', hO, hwl, hwz, hwr, hbx⟩ := hrel
            by_cases hk6 : k < 6
            · have hki : (k : Int) < 6 := by omega
              by_cases ha2 : a' < t.size
              · have hai2 : (a' : Int) < (t.size : Int) := by omega
                by_cases hk4 : k < 4
                · have hk4i : (k : Int) < 4 := by omega
                  obtain ⟨Wd, R', hwd⟩ : ∃ W R, Dg.wordR false ((Dg.L t).drop a') = (W, R) := ⟨_, _, rfl⟩
                  obtain ⟨hpt, hpl⟩ := wordR_tail false ((Dg.L t).drop a')
                  rw [hwd] at hpt hpl
                  have hpl : Wd.length ≤ ((Dg.L t).drop a').length := hpl
                  obtain ⟨hRs, hdrop⟩ := word_pos (R := R') hpt
                  have hnext : Dg.wordsR (gk - 1) (k + 1) (ws ++ [Wd]) ((Dg.L t).drop (t.size - R'.length + 1)) = (WS, RR) := by
                    have h9 := hwr.out
                    obtain ⟨gg, rfl⟩ : ∃ g, gk = g + 1 := ⟨gk - 1, by omega⟩
                    have hd9 : decide (4 ≤ k) = false := by simp; omega
                    have h8 : (Dg.L t).drop a' ≠ [] := fun e => by have := drop_len t a'; rw [e, List.length_nil] at this; omega
                    rw [Dg.wordsR, if_pos ⟨by omega, h8, Or.inl hk4⟩, hd9, hwd] at h9
                    rw [drop_tail hdrop]
                    exact h9
                  have hWz : Wd.length ≤ t.size := by rw [drop_len] at hpl; omega
                  obtain ⟨P, hP⟩ : ∃ P, t.size - R'.length = P := ⟨_, rfl⟩
                  rw [hP] at hnext
                  have HNX := hide hnext; have HWD := hide hwd; have HWZ := hide hWz; have HPP := hide hP
                  clear hnext hwd hWz hdrop hpt hpl hP
                  have hPz : P ≤ t.size := by have := HPP.out; omega
                  have hq4 : decide ((4 : Int) ≤ (k : Int)) = false := by simp; omega
                  go_wp2_with fail
                  refine (rword_of t (by omega) a' ha2 false Wd R' HWD.out wr).mono ?_
                  rintro e wy ⟨rfl, rfl⟩
                  rw [HPP.out]
                  have hln : ws.length ≤ 6 := by omega
                  have LITX := hide (Below.news (Below.refl wy.heap.size wy) (.cells #[.string (Dg.B Wd)] 9))
                  have Strs1 : Hid (∀ (j : Nat) s, [Dg.B Wd][j]? = some s → (wy.alloc (.cells #[.string (Dg.B Wd)] 9)).cell? ((⟨wy.heap.size, 0, none⟩ : Addr).add j) = some (.string s)) := fun j s hj => by
                    rw [addr_off, cell_of_row _ _ _ _ _ (0, 0) (heap_alloc_new wy _), Nat.zero_add, ← Array.getElem?_toList]
                    have h9 : ([Dg.B Wd].map Value.string)[j]? = some (.string s) := by rw [List.getElem?_map, hj]; rfl
                    exact h9
                  have HB1 := hide hbx.size
                  have HBX := hide hbx
                  clear hq4
                  go_wp2_with (at_builtin; refine step_ag rfl (.tmp 55) (.tmp 57) rfl wo.heap.size _ (ws.map Dg.B) [Dg.B Wd] rfl (OwnS.below hO LITX.out) ⟨wy.heap.size, 0, none⟩ 1 1 rfl rfl (Strs1.out) (by rw [List.length_map]; omega) (Nat.le_trans HB1.out LITX.out.size) ?_; intro v8 u8 hO8 hg8 hat8)
                  have hb8 := grown_up (HBX.out.trans (LITX.out.mono HB1.out)) hg8 (fun g hg => (OwnV.lt hO hg).1)
                  go_roundg (gk - 1)
                  case measure => omega
                  case rel => exact ⟨P + 1, k + 1, ws ++ [Wd], by omega, by go_num, by omega, by go_num, by omega, by rw [List.map_append]; exact hO8, by rw [List.length_append, hwl]; rfl, fun w hw => (by
                    rcases List.mem_append.1 hw with h | h
                    · exact hwz.out w h
                    · rw [List.mem_singleton.1 h]; exact HWZ.out), HNX.out, hb8⟩
                · have hk4i : ¬ (k : Int) < 4 := by omega
                  obtain ⟨w0, wt, hws⟩ : ∃ w0 wt, ws = w0 :: wt := by
                    cases ws with
                    | nil => simp at hwl; omega
                    | cons a r => exact ⟨a, r, rfl⟩
                  have hO0 := hO
                  rw [hws, List.map_cons] at hO0
                  rcases hO0.cases with ⟨_, h0⟩ | ⟨g0, cp0, e0, _, _, _, hcell0, _⟩
                  · cases h0
                  rw [List.length_cons, List.length_map] at e0
                  have hwl2 : wt.length + 1 = k := by rw [← hwl, hws]; rfl
                  rw [hwl2] at e0
                  subst e0
                  have h00 := hcell0 0 (Dg.B w0) rfl
                  have HWS := hide hws
                  clear hO0 hcell0 hws hwl2
                  by_cases hdv : w0 = Dg.wDiv
                  · have eqd : ((Dg.B w0).toList == [100, 105, 118, 105, 115, 105, 111, 110]) = true := toL_yes (by rw [Dg.L_B]; exact hdv)
                    have hkn4 : 0 < k := by omega
                    have HDV := hide hdv
                    clear hdv
                    have hend : WS = ws ∧ RR = (Dg.L t).drop a' := by
                      have h9 := hwr.out
                      obtain ⟨gg, rfl⟩ : ∃ g, gk = g + 1 := ⟨gk - 1, by omega⟩
                      rw [Dg.wordsR, if_neg (fun h => h.2.2.elim (fun h => hk4 h) (fun h => h (by rw [HWS.out, HDV.out]; rfl)))] at h9
                      cases h9
                      exact ⟨rfl, rfl⟩
                    go_wp2
                    go_meet
                    obtain ⟨rfl, rfl⟩ := hend
                    exact ⟨a', rfl, ha', rfl, hO, hwz.out, hbx⟩
                  · have eqd : ((Dg.B w0).toList == [100, 105, 118, 105, 115, 105, 111, 110]) = false := toL_no (by rw [Dg.L_B]; exact hdv)
                    have hkn4 : 0 < k := by omega
                    obtain ⟨Wd, R', hwd⟩ : ∃ W R, Dg.wordR true ((Dg.L t).drop a') = (W, R) := ⟨_, _, rfl⟩
                    obtain ⟨hpt, hpl⟩ := wordR_tail true ((Dg.L t).drop a')
                    rw [hwd] at hpt hpl
                    have hpl : Wd.length ≤ ((Dg.L t).drop a').length := hpl
                    obtain ⟨hRs, hdrop⟩ := word_pos (R := R') hpt
                    have hnext : Dg.wordsR (gk - 1) (k + 1) (ws ++ [Wd]) ((Dg.L t).drop (t.size - R'.length + 1)) = (WS, RR) := by
                      have h9 := hwr.out
                      obtain ⟨gg, rfl⟩ : ∃ g, gk = g + 1 := ⟨gk - 1, by omega⟩
                      have hd9 : decide (4 ≤ k) = true := by simp; omega
                      have h8 : (Dg.L t).drop a' ≠ [] := fun e => by have := drop_len t a'; rw [e, List.length_nil] at this; omega
                      rw [Dg.wordsR, if_pos ⟨by omega, h8, Or.inr (fun h => hdv (by rw [HWS.out] at h; simpa using h))⟩, hd9, hwd] at h9
                      rw [drop_tail hdrop]
                      exact h9
                    have hWz : Wd.length ≤ t.size := by rw [drop_len] at hpl; omega
                    obtain ⟨P, hP⟩ : ∃ P, t.size - R'.length = P := ⟨_, rfl⟩
                    rw [hP] at hnext
                    have HNX := hide hnext; have HWD := hide hwd; have HWZ := hide hWz; have HPP := hide hP
                    clear hnext hwd hWz hdrop hpt hpl hP
                    have hPz : P ≤ t.size := by have := HPP.out; omega
                    have hq4 : decide ((4 : Int) ≤ (k : Int)) = true := by simp; omega
                    go_wp2_with fail
                    refine (rword_of t (by omega) a' ha2 true Wd R' HWD.out wr).mono ?_
                    rintro e wy ⟨rfl, rfl⟩
                    rw [HPP.out]
                    have hln : ws.length ≤ 6 := by omega
                    have LITX := hide (Below.news (Below.refl wy.heap.size wy) (.cells #[.string (Dg.B Wd)] 9))
                    have Strs1 : Hid (∀ (j : Nat) s, [Dg.B Wd][j]? = some s → (wy.alloc (.cells #[.string (Dg.B Wd)] 9)).cell? ((⟨wy.heap.size, 0, none⟩ : Addr).add j) = some (.string s)) := fun j s hj => by
                      rw [addr_off, cell_of_row _ _ _ _ _ (0, 0) (heap_alloc_new wy _), Nat.zero_add, ← Array.getElem?_toList]
                      have h9 : ([Dg.B Wd].map Value.string)[j]? = some (.string s) := by rw [List.getElem?_map, hj]; rfl
                      exact h9
                    have HB1 := hide hbx.size
                    have HBX := hide hbx
                    clear hq4
                    go_wp2_with (at_builtin; refine step_ag rfl (.tmp 55) (.tmp 57) rfl wo.heap.size _ (ws.map Dg.B) [Dg.B Wd] rfl (OwnS.below hO LITX.out) ⟨wy.heap.size, 0, none⟩ 1 1 rfl rfl (Strs1.out) (by rw [List.length_map]; omega) (Nat.le_trans HB1.out LITX.out.size) ?_; intro v8 u8 hO8 hg8 hat8)
                    have hb8 := grown_up (HBX.out.trans (LITX.out.mono HB1.out)) hg8 (fun g hg => (OwnV.lt hO hg).1)
                    go_roundg (gk - 1)
                    case measure => omega
                    case rel => exact ⟨P + 1, k + 1, ws ++ [Wd], by omega, by go_num, by omega, by go_num, by omega, by rw [List.map_append]; exact hO8, by rw [List.length_append, hwl]; rfl, fun w hw => (by
                      rcases List.mem_append.1 hw with h | h
                      · exact hwz.out w h
                      · rw [List.mem_singleton.1 h]; exact HWZ.out), HNX.out, hb8⟩
              · have hai2 : ¬ (a' : Int) < (t.size : Int) := by omega
                have hend : WS = ws ∧ RR = (Dg.L t).drop a' := by
                  have h9 := hwr.out
                  obtain ⟨gg, rfl⟩ : ∃ g, gk = g + 1 := ⟨gk - 1, by omega⟩
                  rw [Dg.wordsR, if_neg (fun h => h.2.1 (List.drop_eq_nil_of_le (by rw [Dg.len_L]; omega)))] at h9
                  cases h9
                  exact ⟨rfl, rfl⟩
                go_wp2
                go_meet
                obtain ⟨rfl, rfl⟩ := hend
                exact ⟨a', rfl, ha', rfl, hO, hwz.out, hbx⟩
            · have hki : ¬ (k : Int) < 6 := by omega
              have hend : WS = ws ∧ RR = (Dg.L t).drop a' := by
                have h9 := hwr.out
                obtain ⟨gg, rfl⟩ : ∃ g, gk = g + 1 := ⟨gk - 1, by omega⟩
                rw [Dg.wordsR, if_neg (fun h => hk6 h.1)] at h9
                cases h9
                exact ⟨rfl, rfl⟩
              go_wp2
              go_meet
              obtain ⟨rfl, rfl⟩ := hend
              exact ⟨a', rfl, ha', rfl, hO, hwz.out, hbx⟩
        case rest =>
          obtain ⟨a', rfl, ha', hRR, hOW, hWz, hbc⟩ := hcut
          obtain ⟨m, hm⟩ : ∃ m, WS.length = m := ⟨_, rfl⟩
          have HWZ := hide hWz; have HRR := hide hRR; have HM := hide hm
          clear hWz hRR hm
          by_cases hm4 : m < 4
          · have hO1 : O = none := by rw [← HRUN.out, if_pos (Or.inl (by rw [HM.out]; exact hm4))]
            have h9 := HF.out
            rw [hO1] at h9
            have H8 := hide (show (([], 5) : List Dg.It × Int) = (l, E) from h9)
            obtain ⟨A8, c8, e8, _, _⟩ := hOW.strs
            rw [List.length_map, HM.out] at e8
            subst e8
            have hr2 := iNext hS.r2 hbc
            have hBl := hS.bl.trans (hbc.mono hS.bl.size)
            have fz2 := frozen_of_row _ _ 0 _ _ hr2
            have hmi : (m : Int) < 4 := by omega
            have hc2 := iCells0 hr2
            clear hS hrc hO1 h9 HF HRUN HW hOW
            go_wp2
            have h8 := H8.out
            cases h8
            refine bodyPost_ret (results_ct9 Tryz.results25 _ _ w.heap.size 24 #[.slice none 0 0] (0, 0) _ rfl (setCell_row1 hr2 (.slice none 0 0)) Tryz.underlying24 (by kernel_rfl)) rfl ⟨⟨none, 0, rfl, Nat.le_refl _, Its.nil _ _ _⟩, hBl.setCell (p := ⟨w.heap.size, 0, none⟩) (Nat.le_refl _) _⟩
          · rcases hOW.cases with ⟨_, h0⟩ | ⟨g8, cp8, e8, hg8, hgl, _, hcell, _⟩
            · have := congrArg List.length h0
              rw [List.length_map, HM.out] at this
              simp at this
              omega
            rw [List.length_map, HM.out] at e8
            subst e8
            obtain ⟨w0, w1, w2, w3, wt, rfl⟩ : ∃ w0 w1 w2 w3 wt, WS = w0 :: w1 :: w2 :: w3 :: wt := by
              have := HM.out
              match WS, this with
              | w0 :: w1 :: w2 :: w3 :: wt, _ => exact ⟨w0, w1, w2, w3, wt, rfl⟩
              | [_, _, _], h => simp at h; omega
              | [_, _], h => simp at h; omega
              | [_], h => simp at h; omega
              | [], h => simp at h; omega
            have h00 := hcell 0 (Dg.B w0) rfl
            have hmi : ¬ (m : Int) < 4 := by omega
            have hm0 : 0 < m := by omega
            have hm1 : (1 : Int) < (m : Int) := by omega
            have hm2 : (2 : Int) < (m : Int) := by omega
            have hm3 : (3 : Int) < (m : Int) := by omega
            obtain ⟨gn, hgn⟩ : ∃ gn, ((Dg.B w0).toList == [114, 101, 112, 101, 97, 108, 101, 100]) = gn := ⟨_, rfl⟩
            have hgd : gn = decide (w0 = Dg.wRep) := by rw [← hgn, toL_dec, Dg.L_B]; rfl
            have hdiv := wordsR_div 7 0 [] _ _ _ HW.out rfl (Or.inl (by omega))
            have hHI := hS.own
            have hMC : m = (w0 :: w1 :: w2 :: w3 :: wt).length := HM.out.symm
            have hr2 := iNext hS.r2 hbc
            have hrcw := iNext hS.rc hbc
            have hOX := OwnI.below hS.own hbc
            have hBX : Below w.heap.size w wc := hS.bl.trans (hbc.mono hS.bl.size)
            have hszX : w.heap.size + 2 ≤ wo.heap.size := hS.sz
            have hok := hS.ok
            have HRC0 := hide hS.rc; have HR20 := hide hS.r2; have HOX0 := hide hS.own; have HBX0 := hide hS.bl
            have HMC := hide hMC; have HGD := hide hgd; have HOK := hide hok; have HR2 := hide hr2; have HRC := hide hrcw; have HOX := hide hOX; have HBX := hide hBX; have HSZ := hide hszX
            clear hgd hok hrcw hOX hBX hszX hS hrc hHI hOW HM hMC
            by_cases hdv : w0 = Dg.wDiv
            · have eqd : ((Dg.B w0).toList == [100, 105, 118, 105, 115, 105, 111, 110]) = true := toL_yes (by rw [Dg.L_B]; exact hdv)
              have hm44 : m ≤ 4 := by
                rcases hdiv with h | h
                · rw [← HMC.out] at h; omega
                · exact absurd (by rw [hdv]; rfl) h
              have hm6 : (m : Int) < 6 := by omega
              have HDV := hide hdv
              clear hdiv hdv
              go_upto_region 16 with (fail)
              refine wp_region_noPanic ?_
              refine wp_region_L (LW g8 (List.map Dg.B (w0 :: w1 :: w2 :: w3 :: wt)) wo.heap.size wo) 16 hmx ?_
              have hL1 : LW g8 (List.map Dg.B (w0 :: w1 :: w2 :: w3 :: wt)) wo.heap.size wo wc.drew := (⟨hcell, hgl, hbc, Nat.le_refl _⟩ : LW g8 (List.map Dg.B (w0 :: w1 :: w2 :: w3 :: wt)) wo.heap.size wo wc).below (Below.refl wc.heap.size wc).drew
              have hdr := (Below.refl wc.heap.size wc).drew
              have hwsz := hbc.size
              have HDR := hide hdr
              clear hdr hcell hgl h00 hbc
              generalize wc.drew = x1 at *
              refine wpAnyL_take (i := 0) (f0 := 18) (v := ?_) rfl (by decide +kernel) (by decide +kernel) (by decide +kernel) (by decide +kernel) (by decide +kernel) (fun _ _ _ h => h) (Or.inl ⟨by rfl, ?_⟩) hL1 ?_
              rotate_left
              · intro wS hS; go_simp; (try with_reducible rfl)
              simp only [Act.put, List.getElem_toArray, List.getElem_cons_zero, List.setIfInBounds_toArray, List.set_cons_succ, List.set_cons_zero]
              refine wpAnyL_take (i := 1) (f0 := 18) (v := ?_) rfl (by decide +kernel) (by decide +kernel) (by decide +kernel) (by decide +kernel) (by decide +kernel) (fun _ _ _ h => h) (Or.inl ⟨by rfl, ?_⟩) hL1 ?_
              rotate_left
              · intro wS hS; go_simp; (try with_reducible rfl)
              simp only [Act.put, List.getElem_toArray, List.getElem_cons_succ, List.getElem_cons_zero, List.setIfInBounds_toArray, List.set_cons_succ, List.set_cons_zero]
              refine wpAnyL_take (i := 2) (f0 := 18) (v := ?_) rfl (by decide +kernel) (by decide +kernel) (by decide +kernel) (by decide +kernel) (by decide +kernel) (fun _ _ _ h => h) (Or.inl ⟨by rfl, ?_⟩) hL1 ?_
              rotate_left
              · intro wS hS; have q9 := hS.lw 1 (Dg.B w1) rfl; go_simp; (try with_reducible rfl)
              simp only [Act.put, List.getElem_toArray, List.getElem_cons_succ, List.getElem_cons_zero, List.setIfInBounds_toArray, List.set_cons_succ, List.set_cons_zero]
              refine wpAnyL_take (i := 3) (f0 := 18) (v := ?_) rfl (by decide +kernel) (by decide +kernel) (by decide +kernel) (by decide +kernel) (by decide +kernel) (fun _ _ _ h => h) (Or.inl ⟨by rfl, ?_⟩) hL1 ?_
              rotate_left
              · intro wS hS; go_simp; (try with_reducible rfl)
              simp only [Act.put, List.getElem_toArray, List.getElem_cons_succ, List.getElem_cons_zero, List.setIfInBounds_toArray, List.set_cons_succ, List.set_cons_zero]
              refine wpAnyL_take (i := 4) (f0 := 18) (v := ?_) rfl (by decide +kernel) (by decide +kernel) (by decide +kernel) (by decide +kernel) (by decide +kernel) (fun _ _ _ h => h) (Or.inl ⟨by rfl, ?_⟩) hL1 ?_
              rotate_left
              · intro wS hS; go_simp; (try with_reducible rfl)
              simp only [Act.put, List.getElem_toArray, List.getElem_cons_succ, List.getElem_cons_zero, List.setIfInBounds_toArray, List.set_cons_succ, List.set_cons_zero]
              refine wpAnyL_take (i := 5) (f0 := 18) (v := ?_) rfl (by decide +kernel) (by decide +kernel) (by decide +kernel) (by decide +kernel) (by decide +kernel) (fun _ _ _ h => h) (Or.inl ⟨by rfl, ?_⟩) hL1 ?_
              rotate_left
              · intro wS hS; have q9 := hS.lw 2 (Dg.B w2) rfl; go_simp; (try with_reducible rfl)
              simp only [Act.put, List.getElem_toArray, List.getElem_cons_succ, List.getElem_cons_zero, List.setIfInBounds_toArray, List.set_cons_succ, List.set_cons_zero]
              refine wpAnyL_take (i := 6) (f0 := 18) (v := ?_) rfl (by decide +kernel) (by decide +kernel) (by decide +kernel) (by decide +kernel) (by decide +kernel) (fun _ _ _ h => h) (Or.inl ⟨by rfl, ?_⟩) hL1 ?_
              rotate_left
              · intro wS hS; go_simp; (try with_reducible rfl)
              simp only [Act.put, List.getElem_toArray, List.getElem_cons_succ, List.getElem_cons_zero, List.setIfInBounds_toArray, List.set_cons_succ, List.set_cons_zero]
              refine wpAnyL_take (i := 7) (f0 := 18) (v := ?_) rfl (by decide +kernel) (by decide +kernel) (by decide +kernel) (by decide +kernel) (by decide +kernel) (fun _ _ _ h => h) (Or.inl ⟨by rfl, ?_⟩) hL1 ?_
              rotate_left
              · intro wS hS; go_simp; (try with_reducible rfl)
              simp only [Act.put, List.getElem_toArray, List.getElem_cons_succ, List.getElem_cons_zero, List.setIfInBounds_toArray, List.set_cons_succ, List.set_cons_zero]
              refine wpAnyL_take (i := 8) (f0 := 18) (v := ?_) rfl (by decide +kernel) (by decide +kernel) (by decide +kernel) (by decide +kernel) (by decide +kernel) (fun _ _ _ h => h) (Or.inl ⟨by rfl, ?_⟩) hL1 ?_
              rotate_left
              · intro wS hS; have q9 := hS.lw 3 (Dg.B w3) rfl; go_simp; (try with_reducible rfl)
              simp only [Act.put, List.getElem_toArray, List.getElem_cons_succ, List.getElem_cons_zero, List.setIfInBounds_toArray, List.set_cons_succ, List.set_cons_zero]
              refine wpAnyL_take (i := 9) (f0 := 18) (v := ?_) rfl (by decide +kernel) (by decide +kernel) (by decide +kernel) (by decide +kernel) (by decide +kernel) (fun _ _ _ h => h) (Or.inl ⟨by rfl, ?_⟩) hL1 ?_
              rotate_left
              · intro wS hS; go_simp; (try with_reducible rfl)
              simp only [Act.put, List.getElem_toArray, List.getElem_cons_succ, List.getElem_cons_zero, List.setIfInBounds_toArray, List.set_cons_succ, List.set_cons_zero]
              refine wpAnyL_take (i := 10) (f0 := 18) (v := ?_) rfl (by decide +kernel) (by decide +kernel) (by decide +kernel) (by decide +kernel) (by decide +kernel) (fun _ _ _ h => h) (Or.inl ⟨by rfl, ?_⟩) hL1 ?_
              rotate_left
              · intro wS hS; go_simp; (try with_reducible rfl)
              simp only [Act.put, List.getElem_toArray, List.getElem_cons_succ, List.getElem_cons_zero, List.setIfInBounds_toArray, List.set_cons_succ, List.set_cons_zero]
              refine wpAnyL_take (i := 11) (f0 := 18) (v := ?_) rfl (by decide +kernel) (by decide +kernel) (by decide +kernel) (by decide +kernel) (by decide +kernel) (fun _ _ _ h => h) (Or.inl ⟨by rfl, ?_⟩) hL1 ?_
              rotate_left
              · intro wS hS; have q9 := hS.lw 0 (Dg.B w0) rfl; go_simp; (try with_reducible rfl)
              simp only [Act.put, List.getElem_toArray, List.getElem_cons_succ, List.getElem_cons_zero, List.setIfInBounds_toArray, List.set_cons_succ, List.set_cons_zero]
              refine wpAnyL_take (i := 12) (f0 := 18) (v := ?_) rfl (by decide +kernel) (by decide +kernel) (by decide +kernel) (by decide +kernel) (by decide +kernel) (fun _ _ _ h => h) (Or.inl ⟨by rfl, ?_⟩) hL1 ?_
              rotate_left
              · intro wS hS; go_simp; (try with_reducible rfl)
              simp only [Act.put, List.getElem_toArray, List.getElem_cons_succ, List.getElem_cons_zero, List.setIfInBounds_toArray, List.set_cons_succ, List.set_cons_zero]
              refine wpAnyL_take (i := 13) (f0 := 18) (v := ?_) rfl (by decide +kernel) (by decide +kernel) (by decide +kernel) (by decide +kernel) (by decide +kernel) (fun _ _ _ h => h) (Or.inl ⟨by rfl, ?_⟩) hL1 ?_
              rotate_left
              · intro wS hS; go_simp; (try with_reducible rfl)
              simp only [Act.put, List.getElem_toArray, List.getElem_cons_succ, List.getElem_cons_zero, List.setIfInBounds_toArray, List.set_cons_succ, List.set_cons_zero]
              refine wpAnyL_one (i := 14) (by decide +kernel) (by rfl) (fun K hK => ?_)
              rw [if_pos (by rfl)]
              go_simp
              have hx2 := Below.news (Below.refl x1.heap.size x1) (.cells #[.int .i64 0, .string ⟨#[]⟩, .string ⟨#[]⟩, .string ⟨#[]⟩, .string ⟨#[]⟩, .string ⟨#[]⟩, .bool false] 31)
              have hL2 : LW g8 (List.map Dg.B (w0 :: w1 :: w2 :: w3 :: wt)) wo.heap.size wo (x1.alloc (.cells #[.int .i64 0, .string ⟨#[]⟩, .string ⟨#[]⟩, .string ⟨#[]⟩, .string ⟨#[]⟩, .string ⟨#[]⟩, .bool false] 31)) := hL1.below hx2
              refine hK.out _ _ (Or.inr hL2) ?_
              clear hK K hx2
              try simp only [Act.put, List.getElem_toArray, List.getElem_cons_succ, List.getElem_cons_zero, List.setIfInBounds_toArray, List.set_cons_succ, List.set_cons_zero]
              refine wpAnyL_one (i := 15) (by decide +kernel) (by rfl) (fun K hK => ?_)
              rw [if_pos (by rfl)]
              go_simp
              have hx3 := Below.news (Below.refl x1.heap.size x1) (.cells #[.int .i64 2, .string (Dg.B w1), .string (Dg.B w2), .string (Dg.B w3), .string ⟨#[]⟩, .string ⟨#[]⟩, .bool gn] 31)
              have hL3 : LW g8 (List.map Dg.B (w0 :: w1 :: w2 :: w3 :: wt)) wo.heap.size wo (x1.alloc (.cells #[.int .i64 2, .string (Dg.B w1), .string (Dg.B w2), .string (Dg.B w3), .string ⟨#[]⟩, .string ⟨#[]⟩, .bool gn] 31)) := hL1.below hx3
              have hrow := heap_alloc_new x1 (.cells #[.int .i64 2, .string (Dg.B w1), .string (Dg.B w2), .string (Dg.B w3), .string ⟨#[]⟩, .string ⟨#[]⟩, .bool gn] 31)
              refine hK.out _ _ (Or.inr hL3) ?_
              clear hK K hL2
              try simp only [Act.put, List.getElem_toArray, List.getElem_cons_succ, List.getElem_cons_zero, List.setIfInBounds_toArray, List.set_cons_succ, List.set_cons_zero]
              refine wpAnyL_done (by decide +kernel) ?_ _
              refine NoPanic.normal ?_
              have hX1 : RS wo.heap.size wo g8 (List.map Dg.B (w0 :: w1 :: w2 :: w3 :: wt)) x1.heap.size ⟨2, Dg.B w1, Dg.B w2, Dg.B w3, ⟨#[]⟩, ⟨#[]⟩, gn⟩ (x1.alloc (.cells #[.int .i64 2, .string (Dg.B w1), .string (Dg.B w2), .string (Dg.B w3), .string ⟨#[]⟩, .string ⟨#[]⟩, .bool gn] 31)) := ⟨hrow, hL3.lw, by have := hL1.lt; omega, hL3.bl, hL1.bl.size⟩
              clear hL1 hL3 hrow hx3
              generalize x1.alloc (.cells #[.int .i64 2, .string (Dg.B w1), .string (Dg.B w2), .string (Dg.B w3), .string ⟨#[]⟩, .string ⟨#[]⟩, .bool gn] 31) = x3 at *
              generalize x1.heap.size = bx at *
              obtain ⟨c0, c1, c2, c3, c4, c5, c6⟩ := hX1.cells
              have fz := hX1.fz 2
              go_upto_if 92 with (fail)
              go_cut [] (fun wx => RS wo.heap.size wo g8 (List.map Dg.B (w0 :: w1 :: w2 :: w3 :: wt)) bx ⟨2, Dg.B w1, dashB (Dg.B w2), Dg.B w3, ⟨#[]⟩, ⟨#[]⟩, gn⟩ wx)
              case first =>
                go_wp2_with fail
                · go_meet
                  rw [dashB_yes (s := Dg.B w2) (of_toL (by assumption))]
                  exact hX1.set 2 (.string ⟨#[]⟩) _ rfl
                · go_meet
                  rw [dashB_no (s := Dg.B w2) (of_toLn (by assumption))]
                  exact hX1
              case rest =>
                have hX2 := hcut
                clear hX1 hcut c0 c1 c2 c3 c4 c5 c6 fz
                obtain ⟨c0, c1, c2, c3, c4, c5, c6⟩ := hX2.cells
                have fz := hX2.fz 3
                go_upto_if 96 with (fail)
                go_cut [] (fun wx => RS wo.heap.size wo g8 (List.map Dg.B (w0 :: w1 :: w2 :: w3 :: wt)) bx ⟨2, Dg.B w1, dashB (Dg.B w2), dashB (Dg.B w3), ⟨#[]⟩, ⟨#[]⟩, gn⟩ wx)
                case first =>
                  go_wp2_with fail
                  · go_meet
                    rw [dashB_yes (s := Dg.B w3) (of_toL (by assumption))]
                    exact hX2.set 3 (.string ⟨#[]⟩) _ rfl
                  · go_meet
                    rw [dashB_no (s := Dg.B w3) (of_toLn (by assumption))]
                    exact hX2
                case rest =>
                  have hX3 := hcut
                  clear hX2 hcut c0 c1 c2 c3 c4 c5 c6 fz
                  obtain ⟨c0, c1, c2, c3, c4, c5, c6⟩ := hX3.cells
                  have q0 := hX3.lw 0 (Dg.B w0) rfl
                  have fz := hX3.fz 0
                  go_upto_region 25 with (fail)
                  have hXf := hX3.set 0 (.int .i64 1) ⟨1, Dg.B w1, dashB (Dg.B w2), dashB (Dg.B w3), ⟨#[]⟩, ⟨#[]⟩, gn⟩ rfl
                  generalize wc.setCell ⟨bx, 0, none⟩ (.int .i64 1) = xf at *
                  have hy : Dg.itemR (w0 :: w1 :: w2 :: w3 :: wt) = ⟨1, Dg.B w1, dashB (Dg.B w2), dashB (Dg.B w3), ⟨#[]⟩, ⟨#[]⟩, gn⟩ := by
                    unfold Dg.itemR
                    simp only [List.getD_cons_zero, List.getD_cons_succ]
                    rw [if_pos HDV.out, HGD.out]
                    rfl
                  clear hX3 c0 c1 c2 c3 c4 c5 c6 q0 fz
                  obtain ⟨y, hyy⟩ : ∃ y, (⟨1, Dg.B w1, dashB (Dg.B w2), dashB (Dg.B w3), ⟨#[]⟩, ⟨#[]⟩, gn⟩ : Dg.It) = y := ⟨_, rfl⟩
                  rw [hyy] at hXf hy
                  clear hyy
                  obtain ⟨c0, c1, c2, c3, c4, c5, c6⟩ := hXf.cells
                  have hn9 := Below.news (Below.refl xf.heap.size xf) (.cells #[.int .i64 y.kind, .string y.id, .string y.parent, .string y.number, .string y.north, .string y.south, .bool y.gone] 31)
                  -- from the words' world on, blocks of the code's are as they were
                  have hrcx := iNext HRC0.out hXf.bl
                  have hr2x := iNext HR20.out hXf.bl
                  have hOXx := OwnI.below HOX0.out hXf.bl
                  have hBXx := HBX0.out.trans (hXf.bl.mono HBX0.out.size)
                  have hszx : w.heap.size + 2 ≤ xf.heap.size := Nat.le_trans HSZ.out (Nat.le_trans (Nat.le_refl _) hXf.bl.size)
                  have hOY := OwnI.below hOXx hn9
                  have hrcY := iNext hrcx hn9
                  have hr2Y := iNext hr2x hn9
                  have hBY := hBXx.trans (hn9.mono (by omega))
                  have hszY := Nat.le_trans hszx hn9.size
                  have hsrc : SrcI (xf.alloc (.cells #[.int .i64 y.kind, .string y.id, .string y.parent, .string y.number, .string y.north, .string y.south, .bool y.gone] 31)) (some ⟨xf.heap.size, 0, none⟩) [y] := src_item y
                  have hneY := own_ne hOY hrcY
                  have hne2 := own_ne hOY hr2Y
                  have HOY := hide hOY; have HRCY := hide hrcY; have HR2Y := hide hr2Y; have HBY := hide hBY; have HSZY := hide hszY; have HSRC := hide hsrc; have HNE := hide hneY; have HNE2 := hide hne2
                  have hc1 := iCells0 hrcx
                  clear hXf hn9 hrcx hr2x hOXx hBXx hszx hOY hrcY hr2Y hBY hszY hsrc hneY hne2
                  go_wp2_with (at_builtin; refine step_ai rfl (.tmp 112) (.tmp 114) rfl (w.heap.size + 2) _ its [y] rfl HOY.out (some ⟨xf.heap.size, 0, none⟩) 1 1 rfl rfl HSRC.out (by rw [HN.out]; omega) HSZY.out ?_; intro v5 u5 hO5 hB5 hg5; obtain ⟨g5, cp5, e5, _, _, _, _⟩ := hO5.full (by simp); rw [show (its ++ [y]).length = n + 1 by rw [List.length_append, HN.out]; rfl] at e5; subst e5; have hr5 := grown_row hg5 HRCY.out HNE.out; have hr52 := grown_row hg5 HR2Y.out HNE2.out; have hc5 := iCells0 hr5; have fz5 := frozen_of_row _ _ 0 _ _ hr5)
                  go_roundg gh
                  case measure => omega
                  case rel =>
                    refine ⟨a', _, its ++ [y], by rw [List.length_append, HN.out]; show gh + (n + 1) = 2002; omega, ha', rfl, ⟨(Below.heap_setCell _ _ _ _ (show w.heap.size ≠ w.heap.size + 1 by omega)).trans hr52, setCell_row1 hr5 _, hO5.far hr5 _, (HBY.out.trans (hB5.mono (by omega))).setCell (p := ⟨w.heap.size + 1, 0, none⟩) (by show w.heap.size ≤ w.heap.size + 1; omega) _, Nat.le_trans (Nat.le_trans HSZY.out hB5.size) (by simp [World.setCell]), by rw [List.length_append, HN.out]; show n + 1 ≤ 2001; omega, ?_, fun x hx => ?_⟩⟩
                    · have h9 := HRUN.out
                      rw [if_neg (fun h => h.elim (fun h => by rw [← HMC.out] at h; omega) (fun h => h.2 (by rw [List.getD_cons_zero]; exact HDV.out))), hy, ← HRR.out] at h9
                      rw [List.length_append, HN.out]
                      show Dg.parseR (2002 - (n + 1)) _ _ = O
                      rw [show 2002 - (n + 1) = 2001 - n by omega]
                      exact h9
                    · rcases List.mem_append.1 hx with h | h
                      · exact HOK.out x h
                      · rw [List.mem_singleton.1 h, ← hy]
                        exact itemR_ok (by decide) (fun u hu => Nat.le_trans (HWZ.out u hu) (by omega))
            · have eqd : ((Dg.B w0).toList == [100, 105, 118, 105, 115, 105, 111, 110]) = false := toL_no (by rw [Dg.L_B]; exact hdv)
              clear hdiv
              by_cases hm6 : m < 6
              · have hm6i : (m : Int) < 6 := by omega
                have hO1 : O = none := by rw [← HRUN.out, if_pos (Or.inr ⟨by rw [← HMC.out]; exact hm6, by rw [List.getD_cons_zero]; exact hdv⟩)]
                have h9 := HF.out
                rw [hO1] at h9
                have H8 := hide (show (([], 5) : List Dg.It × Int) = (l, E) from h9)
                have fz2 := frozen_of_row _ _ 0 _ _ hr2
                have hBl := HBX.out
                have hc2 := iCells0 hr2
                clear HRUN HF h9 hO1 HMC HW
                go_wp2
                have h8 := H8.out
                cases h8
                refine bodyPost_ret (results_ct9 Tryz.results25 _ _ w.heap.size 24 #[.slice none 0 0] (0, 0) _ rfl (setCell_row1 hr2 (.slice none 0 0)) Tryz.underlying24 (by kernel_rfl)) rfl ⟨⟨none, 0, rfl, Nat.le_refl _, Its.nil _ _ _⟩, hBl.setCell (p := ⟨w.heap.size, 0, none⟩) (Nat.le_refl _) _⟩
              · have hm6i : ¬ (m : Int) < 6 := by omega
                have hm4i : (4 : Int) < (m : Int) := by omega
                have hm5i : (5 : Int) < (m : Int) := by omega
                obtain ⟨w4, w5, wu, rfl⟩ : ∃ w4 w5 wu, wt = w4 :: w5 :: wu := by
                  match wt, HMC.out with
                  | w4 :: w5 :: wu, _ => exact ⟨w4, w5, wu, rfl⟩
                  | [_], h => simp at h; omega
                  | [], h => simp at h; omega
                go_upto_region 16 with (fail)
                refine wp_region_noPanic ?_
                refine wp_region_L (LW g8 (List.map Dg.B (w0 :: w1 :: w2 :: w3 :: w4 :: w5 :: wu)) wo.heap.size wo) 16 hmx ?_
                have hL1 : LW g8 (List.map Dg.B (w0 :: w1 :: w2 :: w3 :: w4 :: w5 :: wu)) wo.heap.size wo wc.drew := (⟨hcell, hgl, hbc, Nat.le_refl _⟩ : LW g8 (List.map Dg.B (w0 :: w1 :: w2 :: w3 :: w4 :: w5 :: wu)) wo.heap.size wo wc).below (Below.refl wc.heap.size wc).drew
                have hdr := (Below.refl wc.heap.size wc).drew
                have hwsz := hbc.size
                have HDR := hide hdr
                clear hdr hcell hgl h00 hbc
                generalize wc.drew = x1 at *
                refine wpAnyL_take (i := 0) (f0 := 18) (v := ?_) rfl (by decide +kernel) (by decide +kernel) (by decide +kernel) (by decide +kernel) (by decide +kernel) (fun _ _ _ h => h) (Or.inl ⟨by rfl, ?_⟩) hL1 ?_
                rotate_left
                · intro wS hS; go_simp; (try with_reducible rfl)
                simp only [Act.put, List.getElem_toArray, List.getElem_cons_zero, List.setIfInBounds_toArray, List.set_cons_succ, List.set_cons_zero]
                refine wpAnyL_take (i := 1) (f0 := 18) (v := ?_) rfl (by decide +kernel) (by decide +kernel) (by decide +kernel) (by decide +kernel) (by decide +kernel) (fun _ _ _ h => h) (Or.inl ⟨by rfl, ?_⟩) hL1 ?_
                rotate_left
                · intro wS hS; go_simp; (try with_reducible rfl)
                simp only [Act.put, List.getElem_toArray, List.getElem_cons_succ, List.getElem_cons_zero, List.setIfInBounds_toArray, List.set_cons_succ, List.set_cons_zero]
                refine wpAnyL_take (i := 2) (f0 := 18) (v := ?_) rfl (by decide +kernel) (by decide +kernel) (by decide +kernel) (by decide +kernel) (by decide +kernel) (fun _ _ _ h => h) (Or.inl ⟨by rfl, ?_⟩) hL1 ?_
                rotate_left
                · intro wS hS; have q9 := hS.lw 1 (Dg.B w1) rfl; go_simp; (try with_reducible rfl)
                simp only [Act.put, List.getElem_toArray, List.getElem_cons_succ, List.getElem_cons_zero, List.setIfInBounds_toArray, List.set_cons_succ, List.set_cons_zero]
                refine wpAnyL_take (i := 3) (f0 := 18) (v := ?_) rfl (by decide +kernel) (by decide +kernel) (by decide +kernel) (by decide +kernel) (by decide +kernel) (fun _ _ _ h => h) (Or.inl ⟨by rfl, ?_⟩) hL1 ?_
                rotate_left
                · intro wS hS; go_simp; (try with_reducible rfl)
                simp only [Act.put, List.getElem_toArray, List.getElem_cons_succ, List.getElem_cons_zero, List.setIfInBounds_toArray, List.set_cons_succ, List.set_cons_zero]
                refine wpAnyL_take (i := 4) (f0 := 18) (v := ?_) rfl (by decide +kernel) (by decide +kernel) (by decide +kernel) (by decide +kernel) (by decide +kernel) (fun _ _ _ h => h) (Or.inl ⟨by rfl, ?_⟩) hL1 ?_
                rotate_left
                · intro wS hS; go_simp; (try with_reducible rfl)
                simp only [Act.put, List.getElem_toArray, List.getElem_cons_succ, List.getElem_cons_zero, List.setIfInBounds_toArray, List.set_cons_succ, List.set_cons_zero]
                refine wpAnyL_take (i := 5) (f0 := 18) (v := ?_) rfl (by decide +kernel) (by decide +kernel) (by decide +kernel) (by decide +kernel) (by decide +kernel) (fun _ _ _ h => h) (Or.inl ⟨by rfl, ?_⟩) hL1 ?_
                rotate_left
                · intro wS hS; have q9 := hS.lw 2 (Dg.B w2) rfl; go_simp; (try with_reducible rfl)
                simp only [Act.put, List.getElem_toArray, List.getElem_cons_succ, List.getElem_cons_zero, List.setIfInBounds_toArray, List.set_cons_succ, List.set_cons_zero]
                refine wpAnyL_take (i := 6) (f0 := 18) (v := ?_) rfl (by decide +kernel) (by decide +kernel) (by decide +kernel) (by decide +kernel) (by decide +kernel) (fun _ _ _ h => h) (Or.inl ⟨by rfl, ?_⟩) hL1 ?_
                rotate_left
                · intro wS hS; go_simp; (try with_reducible rfl)
                simp only [Act.put, List.getElem_toArray, List.getElem_cons_succ, List.getElem_cons_zero, List.setIfInBounds_toArray, List.set_cons_succ, List.set_cons_zero]
                refine wpAnyL_take (i := 7) (f0 := 18) (v := ?_) rfl (by decide +kernel) (by decide +kernel) (by decide +kernel) (by decide +kernel) (by decide +kernel) (fun _ _ _ h => h) (Or.inl ⟨by rfl, ?_⟩) hL1 ?_
                rotate_left
                · intro wS hS; go_simp; (try with_reducible rfl)
                simp only [Act.put, List.getElem_toArray, List.getElem_cons_succ, List.getElem_cons_zero, List.setIfInBounds_toArray, List.set_cons_succ, List.set_cons_zero]
                refine wpAnyL_take (i := 8) (f0 := 18) (v := ?_) rfl (by decide +kernel) (by decide +kernel) (by decide +kernel) (by decide +kernel) (by decide +kernel) (fun _ _ _ h => h) (Or.inl ⟨by rfl, ?_⟩) hL1 ?_
                rotate_left
                · intro wS hS; have q9 := hS.lw 3 (Dg.B w3) rfl; go_simp; (try with_reducible rfl)
                simp only [Act.put, List.getElem_toArray, List.getElem_cons_succ, List.getElem_cons_zero, List.setIfInBounds_toArray, List.set_cons_succ, List.set_cons_zero]
                refine wpAnyL_take (i := 9) (f0 := 18) (v := ?_) rfl (by decide +kernel) (by decide +kernel) (by decide +kernel) (by decide +kernel) (by decide +kernel) (fun _ _ _ h => h) (Or.inl ⟨by rfl, ?_⟩) hL1 ?_
                rotate_left
                · intro wS hS; go_simp; (try with_reducible rfl)
                simp only [Act.put, List.getElem_toArray, List.getElem_cons_succ, List.getElem_cons_zero, List.setIfInBounds_toArray, List.set_cons_succ, List.set_cons_zero]
                refine wpAnyL_take (i := 10) (f0 := 18) (v := ?_) rfl (by decide +kernel) (by decide +kernel) (by decide +kernel) (by decide +kernel) (by decide +kernel) (fun _ _ _ h => h) (Or.inl ⟨by rfl, ?_⟩) hL1 ?_
                rotate_left
                · intro wS hS; go_simp; (try with_reducible rfl)
                simp only [Act.put, List.getElem_toArray, List.getElem_cons_succ, List.getElem_cons_zero, List.setIfInBounds_toArray, List.set_cons_succ, List.set_cons_zero]
                refine wpAnyL_take (i := 11) (f0 := 18) (v := ?_) rfl (by decide +kernel) (by decide +kernel) (by decide +kernel) (by decide +kernel) (by decide +kernel) (fun _ _ _ h => h) (Or.inl ⟨by rfl, ?_⟩) hL1 ?_
                rotate_left
                · intro wS hS; have q9 := hS.lw 0 (Dg.B w0) rfl; go_simp; (try with_reducible rfl)
                simp only [Act.put, List.getElem_toArray, List.getElem_cons_succ, List.getElem_cons_zero, List.setIfInBounds_toArray, List.set_cons_succ, List.set_cons_zero]
                refine wpAnyL_take (i := 12) (f0 := 18) (v := ?_) rfl (by decide +kernel) (by decide +kernel) (by decide +kernel) (by decide +kernel) (by decide +kernel) (fun _ _ _ h => h) (Or.inl ⟨by rfl, ?_⟩) hL1 ?_
                rotate_left
                · intro wS hS; go_simp; (try with_reducible rfl)
                simp only [Act.put, List.getElem_toArray, List.getElem_cons_succ, List.getElem_cons_zero, List.setIfInBounds_toArray, List.set_cons_succ, List.set_cons_zero]
                refine wpAnyL_take (i := 13) (f0 := 18) (v := ?_) rfl (by decide +kernel) (by decide +kernel) (by decide +kernel) (by decide +kernel) (by decide +kernel) (fun _ _ _ h => h) (Or.inl ⟨by rfl, ?_⟩) hL1 ?_
                rotate_left
                · intro wS hS; go_simp; (try with_reducible rfl)
                simp only [Act.put, List.getElem_toArray, List.getElem_cons_succ, List.getElem_cons_zero, List.setIfInBounds_toArray, List.set_cons_succ, List.set_cons_zero]
                refine wpAnyL_one (i := 14) (by decide +kernel) (by rfl) (fun K hK => ?_)
                rw [if_pos (by rfl)]
                go_simp
                have hx2 := Below.news (Below.refl x1.heap.size x1) (.cells #[.int .i64 0, .string ⟨#[]⟩, .string ⟨#[]⟩, .string ⟨#[]⟩, .string ⟨#[]⟩, .string ⟨#[]⟩, .bool false] 31)
                have hL2 : LW g8 (List.map Dg.B (w0 :: w1 :: w2 :: w3 :: w4 :: w5 :: wu)) wo.heap.size wo (x1.alloc (.cells #[.int .i64 0, .string ⟨#[]⟩, .string ⟨#[]⟩, .string ⟨#[]⟩, .string ⟨#[]⟩, .string ⟨#[]⟩, .bool false] 31)) := hL1.below hx2
                refine hK.out _ _ (Or.inr hL2) ?_
                clear hK K hx2
                try simp only [Act.put, List.getElem_toArray, List.getElem_cons_succ, List.getElem_cons_zero, List.setIfInBounds_toArray, List.set_cons_succ, List.set_cons_zero]
                refine wpAnyL_one (i := 15) (by decide +kernel) (by rfl) (fun K hK => ?_)
                rw [if_pos (by rfl)]
                go_simp
                have hx3 := Below.news (Below.refl x1.heap.size x1) (.cells #[.int .i64 2, .string (Dg.B w1), .string (Dg.B w2), .string (Dg.B w3), .string ⟨#[]⟩, .string ⟨#[]⟩, .bool gn] 31)
                have hL3 : LW g8 (List.map Dg.B (w0 :: w1 :: w2 :: w3 :: w4 :: w5 :: wu)) wo.heap.size wo (x1.alloc (.cells #[.int .i64 2, .string (Dg.B w1), .string (Dg.B w2), .string (Dg.B w3), .string ⟨#[]⟩, .string ⟨#[]⟩, .bool gn] 31)) := hL1.below hx3
                have hrow := heap_alloc_new x1 (.cells #[.int .i64 2, .string (Dg.B w1), .string (Dg.B w2), .string (Dg.B w3), .string ⟨#[]⟩, .string ⟨#[]⟩, .bool gn] 31)
                refine hK.out _ _ (Or.inr hL3) ?_
                clear hK K hL2
                try simp only [Act.put, List.getElem_toArray, List.getElem_cons_succ, List.getElem_cons_zero, List.setIfInBounds_toArray, List.set_cons_succ, List.set_cons_zero]
                refine wpAnyL_done (by decide +kernel) ?_ _
                refine NoPanic.normal ?_
                have hX1 : RS wo.heap.size wo g8 (List.map Dg.B (w0 :: w1 :: w2 :: w3 :: w4 :: w5 :: wu)) x1.heap.size ⟨2, Dg.B w1, Dg.B w2, Dg.B w3, ⟨#[]⟩, ⟨#[]⟩, gn⟩ (x1.alloc (.cells #[.int .i64 2, .string (Dg.B w1), .string (Dg.B w2), .string (Dg.B w3), .string ⟨#[]⟩, .string ⟨#[]⟩, .bool gn] 31)) := ⟨hrow, hL3.lw, by have := hL1.lt; omega, hL3.bl, hL1.bl.size⟩
                clear hL1 hL3 hrow hx3
                generalize x1.alloc (.cells #[.int .i64 2, .string (Dg.B w1), .string (Dg.B w2), .string (Dg.B w3), .string ⟨#[]⟩, .string ⟨#[]⟩, .bool gn] 31) = x3 at *
                generalize x1.heap.size = bx at *
                obtain ⟨c0, c1, c2, c3, c4, c5, c6⟩ := hX1.cells
                have fz := hX1.fz 2
                go_upto_if 92 with (fail)
                go_cut [] (fun wx => RS wo.heap.size wo g8 (List.map Dg.B (w0 :: w1 :: w2 :: w3 :: w4 :: w5 :: wu)) bx ⟨2, Dg.B w1, dashB (Dg.B w2), Dg.B w3, ⟨#[]⟩, ⟨#[]⟩, gn⟩ wx)
                case first =>
                  go_wp2_with fail
                  · go_meet
                    rw [dashB_yes (s := Dg.B w2) (of_toL (by assumption))]
                    exact hX1.set 2 (.string ⟨#[]⟩) _ rfl
                  · go_meet
                    rw [dashB_no (s := Dg.B w2) (of_toLn (by assumption))]
                    exact hX1
                case rest =>
                  have hX2 := hcut
                  clear hX1 hcut c0 c1 c2 c3 c4 c5 c6 fz
                  obtain ⟨c0, c1, c2, c3, c4, c5, c6⟩ := hX2.cells
                  have fz := hX2.fz 3
                  go_upto_if 96 with (fail)
                  go_cut [] (fun wx => RS wo.heap.size wo g8 (List.map Dg.B (w0 :: w1 :: w2 :: w3 :: w4 :: w5 :: wu)) bx ⟨2, Dg.B w1, dashB (Dg.B w2), dashB (Dg.B w3), ⟨#[]⟩, ⟨#[]⟩, gn⟩ wx)
                  case first =>
                    go_wp2_with fail
                    · go_meet
                      rw [dashB_yes (s := Dg.B w3) (of_toL (by assumption))]
                      exact hX2.set 3 (.string ⟨#[]⟩) _ rfl
                    · go_meet
                      rw [dashB_no (s := Dg.B w3) (of_toLn (by assumption))]
                      exact hX2
                  case rest =>
                    have hX3 := hcut
                    clear hX2 hcut c0 c1 c2 c3 c4 c5 c6 fz
                    obtain ⟨c0, c1, c2, c3, c4, c5, c6⟩ := hX3.cells
                    have q0 := hX3.lw 0 (Dg.B w0) rfl
                    have fz := hX3.fz 4
                    have q4 := hX3.lw 4 (Dg.B w4) rfl
                    have hXe := hX3.set 4 (.string (Dg.B w4)) ⟨2, Dg.B w1, dashB (Dg.B w2), dashB (Dg.B w3), Dg.B w4, ⟨#[]⟩, gn⟩ rfl
                    have q5 := hXe.lw 5 (Dg.B w5) rfl
                    have q5' := hX3.lw 5 (Dg.B w5) rfl
                    have fz5 := hX3.fz 5
                    have fz5' := hXe.fz 5
                    go_upto_region 25 with (fail)
                    have hXf := hXe.set 5 (.string (Dg.B w5)) ⟨2, Dg.B w1, dashB (Dg.B w2), dashB (Dg.B w3), Dg.B w4, Dg.B w5, gn⟩ rfl
                    generalize (wc.setCell ⟨bx, 4, none⟩ (.string (Dg.B w4))).setCell ⟨bx, 5, none⟩ (.string (Dg.B w5)) = xf at *
                    have hy : Dg.itemR (w0 :: w1 :: w2 :: w3 :: w4 :: w5 :: wu) = ⟨2, Dg.B w1, dashB (Dg.B w2), dashB (Dg.B w3), Dg.B w4, Dg.B w5, gn⟩ := by
                      unfold Dg.itemR
                      simp only [List.getD_cons_zero, List.getD_cons_succ]
                      rw [if_neg hdv, HGD.out]
                      rfl
                    clear hX3 hXe c0 c1 c2 c3 c4 c5 c6 q0 q4 q5 q5' fz fz5 fz5'
                    obtain ⟨y, hyy⟩ : ∃ y, (⟨2, Dg.B w1, dashB (Dg.B w2), dashB (Dg.B w3), Dg.B w4, Dg.B w5, gn⟩ : Dg.It) = y := ⟨_, rfl⟩
                    rw [hyy] at hXf hy
                    clear hyy
                    obtain ⟨c0, c1, c2, c3, c4, c5, c6⟩ := hXf.cells
                    have hn9 := Below.news (Below.refl xf.heap.size xf) (.cells #[.int .i64 y.kind, .string y.id, .string y.parent, .string y.number, .string y.north, .string y.south, .bool y.gone] 31)
                    -- from the words' world on, blocks of the code's are as they were
                    have hrcx := iNext HRC0.out hXf.bl
                    have hr2x := iNext HR20.out hXf.bl
                    have hOXx := OwnI.below HOX0.out hXf.bl
                    have hBXx := HBX0.out.trans (hXf.bl.mono HBX0.out.size)
                    have hszx : w.heap.size + 2 ≤ xf.heap.size := Nat.le_trans HSZ.out (Nat.le_trans (Nat.le_refl _) hXf.bl.size)
                    have hOY := OwnI.below hOXx hn9
                    have hrcY := iNext hrcx hn9
                    have hr2Y := iNext hr2x hn9
                    have hBY := hBXx.trans (hn9.mono (by omega))
                    have hszY := Nat.le_trans hszx hn9.size
                    have hsrc : SrcI (xf.alloc (.cells #[.int .i64 y.kind, .string y.id, .string y.parent, .string y.number, .string y.north, .string y.south, .bool y.gone] 31)) (some ⟨xf.heap.size, 0, none⟩) [y] := src_item y
                    have hneY := own_ne hOY hrcY
                    have hne2 := own_ne hOY hr2Y
                    have HOY := hide hOY; have HRCY := hide hrcY; have HR2Y := hide hr2Y; have HBY := hide hBY; have HSZY := hide hszY; have HSRC := hide hsrc; have HNE := hide hneY; have HNE2 := hide hne2
                    have hc1 := iCells0 hrcx
                    clear hXf hn9 hrcx hr2x hOXx hBXx hszx hOY hrcY hr2Y hBY hszY hsrc hneY hne2
                    go_wp2_with (at_builtin; refine step_ai rfl (.tmp 112) (.tmp 114) rfl (w.heap.size + 2) _ its [y] rfl HOY.out (some ⟨xf.heap.size, 0, none⟩) 1 1 rfl rfl HSRC.out (by rw [HN.out]; omega) HSZY.out ?_; intro v5 u5 hO5 hB5 hg5; obtain ⟨g5, cp5, e5, _, _, _, _⟩ := hO5.full (by simp); rw [show (its ++ [y]).length = n + 1 by rw [List.length_append, HN.out]; rfl] at e5; subst e5; have hr5 := grown_row hg5 HRCY.out HNE.out; have hr52 := grown_row hg5 HR2Y.out HNE2.out; have hc5 := iCells0 hr5; have fz5 := frozen_of_row _ _ 0 _ _ hr5)
                    go_roundg gh
                    case measure => omega
                    case rel =>
                      refine ⟨a', _, its ++ [y], by rw [List.length_append, HN.out]; show gh + (n + 1) = 2002; omega, ha', rfl, ⟨(Below.heap_setCell _ _ _ _ (show w.heap.size ≠ w.heap.size + 1 by omega)).trans hr52, setCell_row1 hr5 _, hO5.far hr5 _, (HBY.out.trans (hB5.mono (by omega))).setCell (p := ⟨w.heap.size + 1, 0, none⟩) (by show w.heap.size ≤ w.heap.size + 1; omega) _, Nat.le_trans (Nat.le_trans HSZY.out hB5.size) (by simp [World.setCell]), by rw [List.length_append, HN.out]; show n + 1 ≤ 2001; omega, ?_, fun x hx => ?_⟩⟩
                      · have h9 := HRUN.out
                        rw [if_neg (fun h => h.elim (fun h => by rw [← HMC.out] at h; omega) (fun h => by have := h.1; rw [← HMC.out] at this; omega)), hy, ← HRR.out] at h9
                        rw [List.length_append, HN.out]
                        show Dg.parseR (2002 - (n + 1)) _ _ = O
                        rw [show 2002 - (n + 1) = 2001 - n by omega]
                        exact h9
                      · rcases List.mem_append.1 hx with h | h
                        · exact HOK.out x h
                        · rw [List.mem_singleton.1 h, ← hy]
                          exact itemR_ok (by decide) (fun u hu => Nat.le_trans (HWZ.out u hu) (by omega))
      · have hli : ¬ (n : Int) ≤ 2000 := by omega
        have hstop : ¬ ((Dg.L t).drop a ≠ [] ∧ its.length ≤ 2000) := fun h => by have := h.2; have := HN.out; omega
        have hO1 : O = some its := by
          have h9 := hS.run
          obtain ⟨f, hf⟩ : ∃ f, 2002 - its.length = f + 1 := ⟨2001 - its.length, by have := HN.out; omega⟩
          rw [hf, Dg.parseR, if_neg hstop] at h9
          exact h9.symm
        obtain ⟨S, E', hT⟩ : ∃ S E', Dg.textC its = (S, E') := ⟨_, _, rfl⟩
        have hgood := good_iff (t := t) (by omega) hT
        have hF := HF.out
        rw [hO1] at hF
        have hF2 : (if Dg.goodT (Dg.L t) its then (its, (0 : Int)) else ([], 5)) = (l, E) := hF
        have hz : ∀ x ∈ its, ∀ s ∈ Dg.fieldsI x, s.size ≤ 10000 := fun x hx => (hS.ok x hx).2
        have hk : ∀ x ∈ its, x.kind = 1 ∨ x.kind = 2 := fun x hx => (hS.ok x hx).1
        have HF2 := hide hF2; have HT := hide hT; have HW := hide (items_w hk hz); have HZ2 := hide hz; have HG := hide hgood
        clear hT hz hk hO1 hF hF2 hgood hstop HF
        go_wp2_with fail
        refine (rtext_of its AI n cI HN.out HW.out (by omega) wo hIt HZ2.out S E' HT.out).mono ?_
        rintro e w9 ⟨rfl, hb9⟩
        have hr2 := iNext hS.r2 hb9
        have hrc := iNext hS.rc hb9
        have hO9 := OwnI.below hS.own hb9
        have hBl := hS.bl.trans (hb9.mono hS.bl.size)
        clear hS hIt hb9
        have hc1 := iCells0 hrc
        have hc2 := iCells0 hr2
        have fz2 := frozen_of_row _ _ 0 _ _ hr2
        by_cases hgd : E' = 0 ∧ S = t
        · have h9 := HF2.out
          rw [if_pos (HG.out.2 hgd)] at h9
          obtain ⟨rfl, rfl⟩ := hgd
          cases h9
          have eqT : (S.toList == S.toList) = true := beq_self_eq_true _
          go_wp2
          refine bodyPost_ret (results_ct9 Tryz.results25 _ _ w.heap.size 24 #[.slice AI n cI] (0, 0) _ rfl (setCell_row1 hr2 (.slice AI n cI)) Tryz.underlying24 (by kernel_rfl)) rfl ⟨⟨AI, cI, ?_, ?_, ?_⟩, hBl.setCell (p := ⟨w.heap.size, 0, none⟩) (Nat.le_refl _) _⟩
          · rw [HN.out]; rfl
          · rw [HN.out]; exact hcI
          · exact (hO9.far hr2 _).it'
        · have h9 := HF2.out
          rw [if_neg (fun h => hgd (HG.out.1 h))] at h9
          cases h9
          by_cases hE0 : E' = 0
          · subst hE0
            have hne : S ≠ t := fun e => hgd ⟨rfl, e⟩
            have eqT : (S.toList == t.toList) = false := tl_no hne
            clear hgd HF2 HG hne
            go_wp2
            refine bodyPost_ret (results_ct9 Tryz.results25 _ _ w.heap.size 24 #[.slice none 0 0] (0, 0) _ rfl (setCell_row1 hr2 (.slice none 0 0)) Tryz.underlying24 (by kernel_rfl)) rfl ⟨⟨none, 0, rfl, Nat.le_refl _, Its.nil _ _ _⟩, hBl.setCell (p := ⟨w.heap.size, 0, none⟩) (Nat.le_refl _) _⟩
          · have hbn : (E' != 0) = true := bne_iff_ne.2 hE0
            clear hgd HF2 HG HT
            go_wp2
            refine bodyPost_ret (results_ct9 Tryz.results25 _ _ w.heap.size 24 #[.slice none 0 0] (0, 0) _ rfl (setCell_row1 hr2 (.slice none 0 0)) Tryz.underlying24 (by kernel_rfl)) rfl ⟨⟨none, 0, rfl, Nat.le_refl _, Its.nil _ _ _⟩, hBl.setCell (p := ⟨w.heap.size, 0, none⟩) (Nat.le_refl _) _⟩
    · have hai : ¬ (a : Int) < (t.size : Int) := by omega
      have hstop : ¬ ((Dg.L t).drop a ≠ [] ∧ its.length ≤ 2000) := fun h => h.1 (List.drop_eq_nil_of_le (by rw [Dg.len_L]; omega))
      have hO1 : O = some its := by
        have h9 := hS.run
        obtain ⟨f, hf⟩ : ∃ f, 2002 - its.length = f + 1 := ⟨2001 - its.length, by have := HN.out; omega⟩
        rw [hf, Dg.parseR, if_neg hstop] at h9
        exact h9.symm
      obtain ⟨S, E', hT⟩ : ∃ S E', Dg.textC its = (S, E') := ⟨_, _, rfl⟩
      have hgood := good_iff (t := t) (by omega) hT
      have hF := HF.out
      rw [hO1] at hF
      have hF2 : (if Dg.goodT (Dg.L t) its then (its, (0 : Int)) else ([], 5)) = (l, E) := hF
      have hz : ∀ x ∈ its, ∀ s ∈ Dg.fieldsI x, s.size ≤ 10000 := fun x hx => (hS.ok x hx).2
      have hk : ∀ x ∈ its, x.kind = 1 ∨ x.kind = 2 := fun x hx => (hS.ok x hx).1
      have HF2 := hide hF2; have HT := hide hT; have HW := hide (items_w hk hz); have HZ2 := hide hz; have HG := hide hgood
      clear hT hz hk hO1 hF hF2 hgood hstop HF
      go_wp2_with fail
      refine (rtext_of its AI n cI HN.out HW.out (by omega) wo hIt HZ2.out S E' HT.out).mono ?_
      rintro e w9 ⟨rfl, hb9⟩
      have hr2 := iNext hS.r2 hb9
      have hrc := iNext hS.rc hb9
      have hO9 := OwnI.below hS.own hb9
      have hBl := hS.bl.trans (hb9.mono hS.bl.size)
      clear hS hIt hb9
      have hc1 := iCells0 hrc
      have hc2 := iCells0 hr2
      have fz2 := frozen_of_row _ _ 0 _ _ hr2
      by_cases hgd : E' = 0 ∧ S = t
      · have h9 := HF2.out
        rw [if_pos (HG.out.2 hgd)] at h9
        obtain ⟨rfl, rfl⟩ := hgd
        cases h9
        have eqT : (S.toList == S.toList) = true := beq_self_eq_true _
        go_wp2
        refine bodyPost_ret (results_ct9 Tryz.results25 _ _ w.heap.size 24 #[.slice AI n cI] (0, 0) _ rfl (setCell_row1 hr2 (.slice AI n cI)) Tryz.underlying24 (by kernel_rfl)) rfl ⟨⟨AI, cI, ?_, ?_, ?_⟩, hBl.setCell (p := ⟨w.heap.size, 0, none⟩) (Nat.le_refl _) _⟩
        · rw [HN.out]; rfl
        · rw [HN.out]; exact hcI
        · exact (hO9.far hr2 _).it'
      · have h9 := HF2.out
        rw [if_neg (fun h => hgd (HG.out.1 h))] at h9
        cases h9
        by_cases hE0 : E' = 0
        · subst hE0
          have hne : S ≠ t := fun e => hgd ⟨rfl, e⟩
          have eqT : (S.toList == t.toList) = false := tl_no hne
          clear hgd HF2 HG hne
          go_wp2
          refine bodyPost_ret (results_ct9 Tryz.results25 _ _ w.heap.size 24 #[.slice none 0 0] (0, 0) _ rfl (setCell_row1 hr2 (.slice none 0 0)) Tryz.underlying24 (by kernel_rfl)) rfl ⟨⟨none, 0, rfl, Nat.le_refl _, Its.nil _ _ _⟩, hBl.setCell (p := ⟨w.heap.size, 0, none⟩) (Nat.le_refl _) _⟩
        · have hbn : (E' != 0) = true := bne_iff_ne.2 hE0
          clear hgd HF2 HG HT
          go_wp2
          refine bodyPost_ret (results_ct9 Tryz.results25 _ _ w.heap.size 24 #[.slice none 0 0] (0, 0) _ rfl (setCell_row1 hr2 (.slice none 0 0)) Tryz.underlying24 (by kernel_rfl)) rfl ⟨⟨none, 0, rfl, Nat.le_refl _, Its.nil _ _ _⟩, hBl.setCell (p := ⟨w.heap.size, 0, none⟩) (Nat.le_refl _) _⟩
end Go.Proofs.YtpldhempbdionaaGreatDoor

