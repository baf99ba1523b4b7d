/- Walks and laws of this seat, several texts in one. No conditions but those that each theorem states. -/
import Derived.Test.YtobhpeockinnjaaGreatDoorHR3
import Derived.Tactics
import Derived.Tactics2
import Derived.Defers
import Derived.Laws.Pointers
import Derived.Laws.LoneSync
import Derived.RegionTactic
import Derived.RegionCalls
import Derived.ChangeAlike
import Derived.Laws.CopyOwn
import Derived.Lib.LazyBuf
import Derived.WalkSpells
import Derived.Laws.ResultCell
import Derived.BigQuiet
import Derived.Laws.StructEq
import Derived.Deep.RegionHeld3
/- Chain of the reference. No conditions but those that each theorem states. -/
namespace Go.Proofs.YtobhpeockinnjaaGreatDoor
open Go Go.RowKit Go.Sort Go.Maps
/-- A code in its variable, and its items. -/
structure CR (g : Nat) (A : Option Addr) (n c : Nat) (l : List Dg.It) (X : World) : Prop where
  row : X.heap[g]? = some (.cells #[.slice A n c] 24 (0, 0))
  its : Its X X.heap.size A l
theorem CR.below {g : Nat} {A : Option Addr} {n c : Nat} {l : List Dg.It} {X X' : World} (h : CR g A n c l X) (hb : Below X.heap.size X X') : CR g A n c l X' := ⟨iNext h.row hb, h.its.keep hb⟩
theorem findX_walk {l : List Dg.It} {N : Nat} (hN : N ≤ l.length) {vs : List (List ByteArray)} {s : Dg.Wk} (hW : Dg.walkTo l N = some (vs, s)) {j : Nat} (hj : j < N) : findX l l[j].id = (j : Int) := by
  obtain ⟨_, _, _, h2, _⟩ := Dg.visit_at hN hW hj
  exact findX_at (by omega) rfl fun y hy e => h2 (List.mem_map.2 ⟨y, hy, e⟩)
set_option maxRecDepth 100000 in
set_option maxHeartbeats 8000000 in
theorem rchainC_of (l : List Dg.It) (A : Option Addr) (n c : Nat) (hl : l.length = n) (hn : n ≤ 1048576) (w : World) (hI : Its w w.heap.size A l) (N : Nat) (hN : N ≤ l.length) (vs : List (List ByteArray)) (s : Dg.Wk) (hW : Dg.walkTo l N = some (vs, s)) (i : Nat) (hi : i < N) (o : List ByteArray) (ho : vs[i]? = some o) (m : Nat) (hm : o.length = m) (hmn : m ≤ n) :
    Calls Tryz.prog 121 #[.agg #[.slice A n c], .int .i64 (i : Int)] w fun e w' => (∃ A' c', e = .returned (.slice A' m c') ∧ Strs w' w'.heap.size A' o.reverse) ∧ Below w.heap.size w w' := by
  have hx1 := Below.news (Below.refl w.heap.size w) (.cells #[.slice A n c] 24)
  have hS1 : CR w.heap.size A n c l (w.alloc (.cells #[.slice A n c] 24)) := ⟨heap_alloc_new w _, hI.keep hx1⟩
  have HI := hide hI
  have HL := hide hl; have HW := hide hW; have HO := hide ho; have HM := hide hm
  clear hl hI hW ho hm
  have hmx : Tryz.prog.follows .mixedOrders = true := by kernel_rfl
  go_enter Tryz.func121, Tryz.ntmps121
  have hin : (i : Int) < (n : Int) := by have := HL.out; omega
  have hi0 : (0 : Int) ≤ (i : Int) := by omega
  have hil : i < l.length := by omega
  obtain ⟨b, off, rfl⟩ := hS1.its.some hil
  obtain ⟨x, hx⟩ : ∃ x, l[i] = x := ⟨_, rfl⟩
  have hc := iCells0 hS1.row
  obtain ⟨_, p0, p1, p2, p3, p4, p5, p6⟩ := hS1.its.cells hil x hx
  clear p0 p1 p3 p4 p5 p6
  go_wp2
  go_loopw [5, 6] (fun v d wr => ∃ (k : Nat) (q o' : List ByteArray) (x : Dg.It), k < N ∧ l[k]? = some x ∧ d = .string x.parent ∧ Hid (vs[k]? = some o' ∧ o.reverse = q ++ o'.reverse) ∧ OwnS wr (w.heap.size + 1) v q ∧ CR w.heap.size (some ⟨b, off, none⟩) n c l wr ∧ Below w.heap.size w wr) (fun v _ _ => m - sliceLen v)
  case atStart => exact ⟨i, [], o, x, hi, by rw [List.getElem?_eq_getElem hil, hx], rfl, ⟨HO.out, rfl⟩, OwnS.nil _ _, hS1, hx1⟩
  case round =>
    clear hS1 hx1 hc p2 hx
    obtain ⟨k, q, o', y, hk, hy, rfl, hq, hO, hS, hb⟩ := hrel
    obtain ⟨A5, c5, rfl, _, hS5⟩ := hO.strs
    have hkl : k < l.length := by omega
    have hyk : l[k] = y := by rw [List.getElem?_eq_getElem hkl] at hy; injection hy
    have hpe : y.parent.toList.isEmpty = decide (y.parent = Dg.nil8) := (emp_iff _).symm
    rcases Dg.visit_up hN HW.out hk with ⟨hp, hv⟩ | ⟨hp, j, z, o1, hj, hz, hid, _, hv1, hv⟩
    · rw [hyk] at hp
      have ho0 : o' = [] := by rw [hq.out.1] at hv; injection hv
      have hqo : o.reverse = q := by have h := hq.out.2; rw [ho0] at h; simpa using h
      have hqm : q.length = m := by rw [← hqo, List.length_reverse, HM.out]
      rw [decide_eq_true hp] at hpe
      rw [← hqo] at hS5
      rw [hqm]
      have HS5 := hide hS5
      clear hp hv ho0 hqo hyk hy hS5 hO
      go_wp2
      go_ret
      exact ⟨⟨A5, c5, rfl, HS5.out⟩, hb⟩
    · rw [hyk] at hp hid hv
      rw [decide_eq_false hp] at hpe
      have hq1 : o.reverse = (q ++ [y.parent]) ++ o1.reverse := by
        have h := hq.out.2
        rw [hq.out.1] at hv
        injection hv with hv
        rw [hv, List.reverse_append] at h
        rw [h, List.append_assoc]
        rfl
      have hlt : q.length + 1 ≤ m := by
        have h := congrArg List.length hq1
        rw [List.length_reverse, HM.out, List.length_append, List.length_append] at h
        simp only [List.length_singleton] at h
        omega
      have hjl : j < l.length := by omega
      have hzj : l[j] = z := by rw [List.getElem?_eq_getElem hjl] at hz; injection hz
      have hfx : findX l y.parent = (j : Int) := by rw [← hid, ← hzj]; exact findX_walk hN HW.out (by omega)
      have HQ := hide (And.intro hv1 hq1); have HZ := hide hz; have HF := hide hfx; have HZJ := hide hzj
      clear hp hv hid hv1 hq1 hyk hy hz hfx hzj hq
      have LITX := hide (Below.news (Below.refl wr.heap.size wr) (.cells #[.string y.parent] 9))
      have Strs1 : Hid (∀ (j : Nat) s, [y.parent][j]? = some s → (wr.alloc (.cells #[.string y.parent] 9)).cell? ((⟨wr.heap.size, 0, none⟩ : Addr).add j) = some (.string s)) := fun j s hj => by
        rw [addr_off, cell_of_row _ _ _ _ _ (0, 0) (heap_alloc_new wr _), Nat.zero_add, ← Array.getElem?_toList]
        have h9 : ([y.parent].map Value.string)[j]? = some (.string s) := by rw [List.getElem?_map, hj]; rfl
        exact h9
      have HB1 := hide (show w.heap.size + 1 ≤ wr.heap.size by have := lt_of_block hS.row; omega)
      have HBW := hide hb
      go_upto_region 5 with (at_builtin; refine step_ag rfl (.tmp 15) (.tmp 17) rfl (w.heap.size + 1) (.slice A5 q.length c5) q [y.parent] rfl (OwnS.below hO LITX.out) ⟨wr.heap.size, 0, none⟩ 1 1 rfl rfl (Strs1.out) (by omega) (Nat.le_trans HB1.out LITX.out.size) ?_; intro v8 u8 hO8 hg8 hat8; obtain ⟨A8, c8, e8, _, _⟩ := hO8.strs; subst e8)
      have hb8 := grown_up (bnext HBW.out LITX.out) hg8 (fun g hg => by have := (OwnV.lt hO hg).1; omega)
      have hr8 := grown_row hg8 (iNext hS.row LITX.out) (fun g hg => by have := (OwnV.lt hO hg).1; omega)
      have hS8 : CR w.heap.size (some ⟨b, off, none⟩) n c l u8 := ⟨hr8, (HI.out.below hb8).more hb8.size⟩
      clear hr8 hg8 hat8 hO hb hS HB1 LITX Strs1
      try clear hc1
      try clear hc2
      refine wp_region_noPanic ?_
      refine wp_region_L (CR w.heap.size (some ⟨b, off, none⟩) n c l) 9 hmx ?_
      have hdr := (Below.refl u8.heap.size u8).drew
      have hS9 : (CR w.heap.size (some ⟨b, off, none⟩) n c l) u8.drew := hS8.below hdr
      have hb9 := bnext hb8 hdr
      have hO9 := OwnS.below hO8 hdr
      clear hO8 hdr hS8 hb8
      generalize u8.drew = w9 at *
      have hj0 : (0 : Int) ≤ (j : Int) := by omega
      have hjn : (j : Int) < (n : Int) := by have := HL.out; omega
      refine wpAnyL_take (i := 0) (f0 := 11) (v := ?_) rfl (by decide +kernel) (by decide +kernel) (by decide +kernel) (by decide +kernel) (by decide +kernel) (fun _ _ _ h => h) (Or.inl ⟨by rfl, ?_⟩) hS9 ?_
      rotate_left
      · intro wS hS; go_simp; (try with_reducible rfl)
      simp only [Act.put, List.getElem_toArray, List.getElem_cons_zero, List.setIfInBounds_toArray, List.set_cons_succ, List.set_cons_zero]
      refine wpAnyL_take (i := 1) (f0 := 11) (v := ?_) rfl (by decide +kernel) (by decide +kernel) (by decide +kernel) (by decide +kernel) (by decide +kernel) (fun _ _ _ h => h) (Or.inl ⟨by rfl, ?_⟩) hS9 ?_
      rotate_left
      · intro wS hS; have c9 := iCells0 hS.row; go_simp; (try with_reducible rfl)
      simp only [Act.put, List.getElem_toArray, List.getElem_cons_succ, List.getElem_cons_zero, List.setIfInBounds_toArray, List.set_cons_succ, List.set_cons_zero]
      refine wpAnyL_take (i := 2) (f0 := 11) (v := ?_) rfl (by decide +kernel) (by decide +kernel) (by decide +kernel) (by decide +kernel) (by decide +kernel) (fun _ _ _ h => h) (Or.inl ⟨by rfl, ?_⟩) hS9 ?_
      rotate_left
      · intro wS hS; have c9 := iCells0 hS.row; go_simp; (try with_reducible rfl)
      simp only [Act.put, List.getElem_toArray, List.getElem_cons_succ, List.getElem_cons_zero, List.setIfInBounds_toArray, List.set_cons_succ, List.set_cons_zero]
      refine wpAnyL_take (i := 3) (f0 := 11) (v := ?_) rfl (by decide +kernel) (by decide +kernel) (by decide +kernel) (by decide +kernel) (by decide +kernel) (fun _ _ _ h => h) (Or.inl ⟨by rfl, ?_⟩) hS9 ?_
      rotate_left
      · intro wS hS; go_simp; (try with_reducible rfl)
      simp only [Act.put, List.getElem_toArray, List.getElem_cons_succ, List.getElem_cons_zero, List.setIfInBounds_toArray, List.set_cons_succ, List.set_cons_zero]
      refine wpAnyL_one (i := 4) (by decide +kernel) (by rfl) (fun K hK => ?_)
      rw [if_pos (by rfl)]
      go_simp
      refine (rfind_of l (some ⟨b, off, none⟩) n c HL.out (by omega) y.parent w9 hS9.its (j : Int) HF.out).mono ?_
      rintro e w10 ⟨rfl, hx10⟩
      have hS10 : (CR w.heap.size (some ⟨b, off, none⟩) n c l) w10 := hS9.below hx10
      have hb10 := bnext hb9 hx10
      have hO10 := OwnS.below hO9 hx10
      clear hO9
      refine hK.out _ _ (Or.inr hS10) ?_
      clear hK K hS9 hb9 hx10
      try simp only [Act.put, List.getElem_toArray, List.getElem_cons_succ, List.getElem_cons_zero, List.setIfInBounds_toArray, List.set_cons_succ, List.set_cons_zero]
      refine wpAnyL_take (i := 5) (f0 := 11) (v := ?_) rfl (by decide +kernel) (by decide +kernel) (by decide +kernel) (by decide +kernel) (by decide +kernel) (fun _ _ _ h => h) (Or.inl ⟨by rfl, ?_⟩) hS10 ?_
      rotate_left
      · intro wS hS; go_simp; (try with_reducible rfl)
      simp only [Act.put, List.getElem_toArray, List.getElem_cons_succ, List.getElem_cons_zero, List.setIfInBounds_toArray, List.set_cons_succ, List.set_cons_zero]
      refine wpAnyL_take (i := 6) (f0 := 11) (v := ?_) rfl (by decide +kernel) (by decide +kernel) (by decide +kernel) (by decide +kernel) (by decide +kernel) (fun _ _ _ h => h) (Or.inl ⟨by rfl, ?_⟩) hS10 ?_
      rotate_left
      · intro wS hS; go_simp; (try with_reducible rfl)
      simp only [Act.put, List.getElem_toArray, List.getElem_cons_succ, List.getElem_cons_zero, List.setIfInBounds_toArray, List.set_cons_succ, List.set_cons_zero]
      refine wpAnyL_take (i := 7) (f0 := 11) (v := ?_) rfl (by decide +kernel) (by decide +kernel) (by decide +kernel) (by decide +kernel) (by decide +kernel) (fun _ _ _ h => h) (Or.inl ⟨by rfl, ?_⟩) hS10 ?_
      rotate_left
      · intro wS hS; obtain ⟨_, p0, p1, p2, p3, p4, p5, p6⟩ := hS.its.cells (List.getElem?_eq_some_iff.1 HZ.out).1 z HZJ.out; go_simp; (try with_reducible rfl)
      simp only [Act.put, List.getElem_toArray, List.getElem_cons_succ, List.getElem_cons_zero, List.setIfInBounds_toArray, List.set_cons_succ, List.set_cons_zero]
      refine wpAnyL_take (i := 8) (f0 := 11) (v := ?_) rfl (by decide +kernel) (by decide +kernel) (by decide +kernel) (by decide +kernel) (by decide +kernel) (fun _ _ _ h => h) (Or.inl ⟨by rfl, ?_⟩) hS10 ?_
      rotate_left
      · intro wS hS; go_simp; (try with_reducible rfl)
      simp only [Act.put, List.getElem_toArray, List.getElem_cons_succ, List.getElem_cons_zero, List.setIfInBounds_toArray, List.set_cons_succ, List.set_cons_zero]
      refine wpAnyL_done (by decide +kernel) ?_ _
      refine NoPanic.normal ?_
      go_wp2
      go_roundw
      case rel => exact ⟨j, q ++ [y.parent], o1, z, by omega, HZ.out, rfl, ⟨HQ.out.1, HQ.out.2⟩, by rw [List.length_append] at hO10; exact hO10, hS10, hb10⟩
      case measure => simp [sliceLen]; omega
end Go.Proofs.YtobhpeockinnjaaGreatDoor
/- Validity as the reference has it equals the walk's, in plain Lean. No program in sight. -/
namespace Go.Proofs.YtobhpeockinnjaaGreatDoor.Dg
open Go
/-- The open divisions before the item behind item k. -/
theorem op_behind {l : List It} {k : Nat} (hk : k < l.length) {vs : List (List ByteArray)} {s : Wk} (h : walkTo l (k + 1) = some (vs, s)) : ∃ o, vs[k]? = some o ∧ s.op = if l[k].kind = 1 then o ++ [l[k].id] else o := by
  obtain ⟨vs0, s0, o, w0, st, rfl⟩ := walk_step hk h
  have hl := walk_len (by omega) w0
  obtain ⟨_, _, _, _, _, _, c6⟩ := stepI_some st
  exact ⟨o, by rw [List.getElem?_append_right (by omega), hl, Nat.sub_self]; rfl, c6⟩
/-- Whether an item stands at a right place, by the reference; f is how far it goes up at most. -/
def placeR (l : List It) (f i : Nat) (p : ByteArray) : Bool :=
  if p = nil8 then true else match i with
    | 0 => false
    | j + 1 => match l[j]? with
      | none => false
      | some x => (decide (x.id = p) || inB (chainR l f x.parent) p) && (match findI l p with | none => false | some y => decide (y.kind = 1))
theorem place_eq {l : List It} {i : Nat} (hi : i ≤ l.length) {vs : List (List ByteArray)} {s : Wk} (h : walkTo l i = some (vs, s)) (f : Nat) (hf : i < f) (p : ByteArray) : placeR l f i p = (kOf s.op p).isSome := by
  unfold placeR kOf
  by_cases hp : p = nil8
  · rw [if_pos hp, if_pos hp]; rfl
  · rw [if_neg hp, if_neg hp]
    cases i with
    | zero =>
      cases h
      simp [inB]
    | succ j =>
      have hj : j < l.length := by omega
      obtain ⟨o, ho, hop⟩ := op_behind hj h
      have hch := chain_eq (by omega) h j (by omega) f (by omega) o ho
      obtain ⟨hst, _⟩ := walk_stack (by omega) h
      simp only [List.getElem?_eq_getElem hj]
      rw [hch]
      have hrev : inB o.reverse p = inB o p := by
        cases hb : inB o p with
        | true => exact (inB_iff _ _).2 (List.mem_reverse.2 ((inB_iff _ _).1 hb))
        | false => exact (inB_no _ _).2 fun hm => (inB_no _ _).1 hb (List.mem_reverse.1 hm)
      rw [hrev]
      -- what is found for a name that is open
      have hfo : ∀ d, d ∈ s.op → ∃ y, findI l d = some y ∧ y.kind = 1 := fun d hd => by
        obtain ⟨t, ht, rfl⟩ := List.mem_iff_getElem.1 hd
        obtain ⟨k, x, c1, c2, c3, c4, _⟩ := hst t s.op[t] (List.getElem?_eq_getElem ht)
        obtain ⟨hkl, c2'⟩ := List.getElem?_eq_some_iff.1 c2
        have := find_at (by omega) h (k := k) (by omega)
        rw [c2', c3] at this
        exact ⟨x, this, c4⟩
      by_cases hm : p ∈ s.op
      · obtain ⟨y, hy, hk⟩ := hfo p hm
        rw [if_pos ((inB_iff _ _).2 hm), hy]
        simp only [hk, decide_true, Bool.and_true, Option.isSome_some]
        rw [hop] at hm
        split at hm
        · rcases List.mem_append.1 hm with h1 | h1
          · rw [(inB_iff _ _).2 h1, Bool.or_true]
          · rw [decide_eq_true (List.mem_singleton.1 h1).symm, Bool.true_or]
        · rw [(inB_iff _ _).2 hm, Bool.or_true]
      · rw [if_neg (by rw [(inB_no _ _).2 hm]; decide)]
        simp only [Option.isSome_none]
        rw [hop] at hm
        have hno : inB o p = false := (inB_no _ _).2 fun h1 => hm (by split <;> first | exact List.mem_append_left _ h1 | exact h1)
        rw [hno, Bool.or_false]
        by_cases hid : l[j].id = p
        · have hk : l[j].kind ≠ 1 := fun e => hm (by rw [if_pos e, hid]; simp)
          have := find_at (by omega) h (k := j) (by omega)
          rw [hid] at this
          rw [this]
          simp [hk]
        · rw [decide_eq_false hid, Bool.false_and]
/-- An item, by the reference. -/
def okR (l : List It) (f i : Nat) (x : It) : Bool :=
  isNameB x.id && (!(inB ((l.take i).map It.id) x.id) && (isNumB x.number && (!(decide (x.kind = 1) && (!(decide (x.north = nil8)) || (!(decide (x.south = nil8)) || x.gone))) && ((decide (x.kind = 1) || decide (x.kind = 2)) && (decide (x.north.size ≤ 400) && (decide (x.south.size ≤ 400) && placeR l f i x.parent))))))
theorem proper_ref (x : It) : properI x = (isNameB x.id && (isNumB x.number && (!(decide (x.kind = 1) && (!(decide (x.north = nil8)) || (!(decide (x.south = nil8)) || x.gone))) && ((decide (x.kind = 1) || decide (x.kind = 2)) && (decide (x.north.size ≤ 400) && decide (x.south.size ≤ 400)))))) := by
  unfold properI
  by_cases h1 : x.kind = 1
  · rw [if_pos h1]
    by_cases h3 : x.north = nil8
    · by_cases h4 : x.south = nil8
      · have z3 : x.north.size ≤ 400 := by rw [h3]; decide
        have z4 : x.south.size ≤ 400 := by rw [h4]; decide
        rw [decide_eq_true h3, decide_eq_true h4, decide_eq_true h1, decide_eq_true z3, decide_eq_true z4]
        cases isNumB x.number <;> cases isNameB x.id <;> cases x.gone <;> rfl
      · rw [decide_eq_true h3, decide_eq_false h4, decide_eq_true h1]
        cases isNumB x.number <;> cases isNameB x.id <;> simp
    · rw [decide_eq_false h3, decide_eq_true h1]
      cases isNumB x.number <;> cases isNameB x.id <;> simp
  · rw [if_neg h1, decide_eq_false h1]
    by_cases h2 : x.kind = 2
    · rw [if_pos h2, decide_eq_true h2]
      cases isNumB x.number <;> cases isNameB x.id <;> simp
    · rw [if_neg h2, decide_eq_false h2]
      simp
theorem step_ref {l : List It} {i : Nat} (hi : i < l.length) {vs : List (List ByteArray)} {s : Wk} (h : walkTo l i = some (vs, s)) (f : Nat) (hf : i < f) : (stepI s l[i]).isSome = okR l f i l[i] := by
  obtain ⟨h1, _⟩ := walk_seen (by omega) h
  have hseen : inB s.seen l[i].id = inB ((l.take i).map It.id) l[i].id := by
    rw [h1]
    cases hb : inB ((l.take i).map It.id) l[i].id with
    | true => exact (inB_iff _ _).2 (List.mem_reverse.2 ((inB_iff _ _).1 hb))
    | false => exact (inB_no _ _).2 fun hm => (inB_no _ _).1 hb (List.mem_reverse.1 hm)
  have hst : (stepI s l[i]).isSome = (properI l[i] && (!(inB s.seen l[i].id) && (kOf s.op l[i].parent).isSome)) := by
    unfold stepI
    cases hp : properI l[i] with
    | false => rw [if_neg (fun hh => by cases hh.1)]; rfl
    | true =>
      cases hn : inB s.seen l[i].id with
      | true => rw [if_neg (fun hh => by cases hh.2)]; rfl
      | false =>
        rw [if_pos ⟨rfl, rfl⟩]
        cases kOf s.op l[i].parent <;> rfl
  rw [hst, hseen, ← place_eq (by omega) h f hf, proper_ref]
  unfold okR
  cases isNameB l[i].id <;> cases inB ((l.take i).map It.id) l[i].id <;> cases isNumB l[i].number <;> simp [Bool.and_assoc]
end Go.Proofs.YtobhpeockinnjaaGreatDoor.Dg
/- place of the reference. No conditions but those that each theorem states. -/
namespace Go.Proofs.YtobhpeockinnjaaGreatDoor
open Go Go.RowKit Go.Sort Go.Maps
theorem op_le {l : List Dg.It} {N : Nat} (hN : N ≤ l.length) {vs : List (List ByteArray)} {s : Dg.Wk} (hW : Dg.walkTo l N = some (vs, s)) {j : Nat} (hj : j < N) {o : List ByteArray} (ho : vs[j]? = some o) : o.length ≤ j := by
  obtain ⟨s1, h1⟩ := Dg.walk_le hN hW (j + 1) (by omega)
  obtain ⟨vs0, s0, o0, w0, st0, e0⟩ := Dg.walk_step (l := l) (k := j) (by omega) h1
  have l0 := Dg.walk_len (by omega) w0
  have a0 : (vs.take (j + 1))[j]? = some o0 := by rw [e0, List.getElem?_append_right (by omega), l0]; simp
  rw [List.getElem?_take_of_lt (by omega), ho] at a0
  injection a0 with a0
  rw [a0]
  rw [e0] at h1
  exact op_short (by omega) h1
set_option maxRecDepth 100000 in
set_option maxHeartbeats 8000000 in
theorem place_of (l : List Dg.It) (A : Option Addr) (n c : Nat) (hl : l.length = n) (hn : n ≤ 1048576) (w : World) (hI : Its w w.heap.size A l) (i : Nat) (hi : i < l.length) (vs : List (List ByteArray)) (s : Dg.Wk) (hW : Dg.walkTo l i = some (vs, s)) (R : Bool) (hR : (Dg.kOf s.op l[i].parent).isSome = R) :
    Calls Tryz.prog 85 #[.agg #[.slice A n c], .int .i64 (i : Int)] w fun e w' => e = .returned (.bool R) ∧ Below w.heap.size w w' := by
  have hx1 := Below.news (Below.refl w.heap.size w) (.cells #[.slice A n c] 24)
  have hS1 : CR w.heap.size A n c l (w.alloc (.cells #[.slice A n c] 24)) := ⟨heap_alloc_new w _, hI.keep hx1⟩
  rw [← Dg.place_eq (by omega) hW (l.length + 1) (by omega)] at hR
  obtain ⟨y, hy⟩ : ∃ y, l[i] = y := ⟨_, rfl⟩
  rw [hy] at hR
  have HL := hide hl; have HW := hide hW; have HR := hide hR; have HY := hide hy
  clear hI hW hR hy hl
  have hmx : Tryz.prog.follows .mixedOrders = true := by kernel_rfl
  go_enter Tryz.func85, Tryz.ntmps85
  have hin : (i : Int) < (n : Int) := by have := HL.out; omega
  have hi0 : (0 : Int) ≤ (i : Int) := by omega
  obtain ⟨b, off, rfl⟩ := hS1.its.some hi
  have hc := iCells0 hS1.row
  obtain ⟨_, p0, p1, p2, p3, p4, p5, p6⟩ := hS1.its.cells hi y HY.out
  clear p0 p1 p3 p4 p5 p6
  have hpe : y.parent.toList.isEmpty = decide (y.parent = Dg.nil8) := (emp_iff _).symm
  by_cases hp : y.parent = Dg.nil8
  · rw [decide_eq_true hp] at hpe
    have E9 := hide (show true = R by rw [← HR.out]; unfold Dg.placeR; rw [if_pos hp])
    clear hp
    go_wp2
    go_ret
    exact ⟨ret_bool E9.out, hx1⟩
  · rw [decide_eq_false hp] at hpe
    by_cases h0 : i = 0
    · have h0' : ((i : Int) == 0) = true := beq_iff_eq.2 (by omega)
      have E9 := hide (show false = R by rw [← HR.out]; unfold Dg.placeR; rw [if_neg hp, h0])
      clear hp h0
      go_wp2
      go_ret
      exact ⟨ret_bool E9.out, hx1⟩
    · obtain ⟨j, hj⟩ : ∃ j, i = j + 1 := ⟨i - 1, by omega⟩
      have hi1 : ((i : Int) == 0) = false := beq_eq_false_iff_ne.2 (by omega)
      have hij : (i : Int) - 1 = (j : Int) := by omega
      have hwj : IntKind.i64.wrap (j : Int) = (j : Int) := IntWalk.i64_in _ (by omega)
      have hj0 : (0 : Int) ≤ (j : Int) := by omega
      have hjn : (j : Int) < (n : Int) := by have := HL.out; omega
      have hjl : j < l.length := by omega
      obtain ⟨x, hx⟩ : ∃ x, l[j] = x := ⟨_, rfl⟩
      obtain ⟨_, p0, p1, p3, p4, p5, p6, p7⟩ := hS1.its.cells hjl x hx
      have hvl := Dg.walk_len (by omega) HW.out
      obtain ⟨o, ho⟩ : ∃ o, vs[j]? = some o := ⟨_, List.getElem?_eq_getElem (by omega)⟩
      have hch := Dg.chain_eq (by omega) HW.out j (by omega) (l.length + 1) (by omega) o ho
      have hR2 : ((decide (x.id = y.parent) || Dg.inB o.reverse y.parent) && (match Dg.findI l y.parent with | none => false | some z => decide (z.kind = 1))) = R := by
        rw [← HR.out]
        unfold Dg.placeR
        rw [if_neg hp, hj]
        simp only [List.getElem?_eq_getElem hjl, hx]
        rw [hx] at hch
        rw [hch] <;> (cases Dg.findI l y.parent <;> rfl)
      have hat : ∀ (t : Nat) (ht : t < i) (htl : t < l.length), l[t].id = y.parent → findX l y.parent = (t : Int) ∧ Dg.findI l y.parent = some l[t] := fun t ht htl e => by
        rw [← e]
        exact ⟨findX_walk (by omega) HW.out ht, Dg.find_at (by omega) HW.out ht⟩
      have hom : ∀ d ∈ o, ∃ (t : Nat) (ht : t < i) (htl : t < l.length), l[t].id = d := fun d hd => by
        obtain ⟨o', ho', hmem, _⟩ := Dg.visit_at (by omega) HW.out (k := j) (by omega)
        rw [ho] at ho'
        injection ho' with ho'
        rw [ho'] at hd
        obtain ⟨z, hz, e⟩ := List.mem_map.1 (hmem d hd)
        obtain ⟨t, ht, rfl⟩ := List.mem_take_iff_getElem.1 hz
        exact ⟨t, by omega, by omega, e⟩
      have hol := op_le (by omega) HW.out (j := j) (by omega) ho
      have HO := hide ho; have HX := hide hx; have HR2 := hide hR2; have HAT := hide hat; have HOM := hide hom
      have HJ := hide hj
      clear hp h0 hvl hch hR2 hat hom hx ho HR hj
      go_upto_region 7 with (fail)
      have hx2 := Below.news (Below.refl (w.alloc (.cells #[.slice (some ⟨b, off, none⟩) n c] 24)).heap.size (w.alloc (.cells #[.slice (some ⟨b, off, none⟩) n c] 24))) (.cells #[.int .i64 x.kind, .string x.id, .string x.parent, .string x.number, .string x.north, .string x.south, .bool x.gone] 26)
      have hrx := heap_alloc_new (w.alloc (.cells #[.slice (some ⟨b, off, none⟩) n c] 24)) (.cells #[.int .i64 x.kind, .string x.id, .string x.parent, .string x.number, .string x.north, .string x.south, .bool x.gone] 26)
      have hz1 : (w.alloc (.cells #[.slice (some ⟨b, off, none⟩) n c] 24)).heap.size = w.heap.size + 1 := by simp
      rw [hz1] at hrx
      have hS2 := hS1.below hx2
      have hb2 := bnext hx1 hx2
      clear hS1 hx1 hx2 hz1 hc p0 p1 p2 p3 p4 p5 p6 p7
      generalize (w.alloc (.cells #[.slice (some ⟨b, off, none⟩) n c] 24)).alloc (.cells #[.int .i64 x.kind, .string x.id, .string x.parent, .string x.number, .string x.north, .string x.south, .bool x.gone] 26) = w2 at *
      have hc := iCells0 hS2.row
      obtain ⟨_, q1, _⟩ := iCells hrx
      by_cases he : x.id = y.parent
      · have hbe := bs_yes he
        obtain ⟨hfx, hfi⟩ := HAT.out j (by have := HJ.out; omega) hjl (by rw [HX.out]; exact he)
        rw [HX.out] at hfi
        have E9 := hide (show decide (x.kind = 1) = R by rw [← HR2.out, decide_eq_true he, hfi]; rfl)
        have HF := hide hfx
        clear he hfx hfi
        go_upto_region 9 with (fail)
        clear q1 hrx
        clear hc
        try clear hc1
        try clear hc2
        refine wp_region_noPanic ?_
        refine wp_region_L (CR w.heap.size (some ⟨b, off, none⟩) n c l) 10 hmx ?_
        have hdr := (Below.refl w2.heap.size w2).drew
        have hS21 : (CR w.heap.size (some ⟨b, off, none⟩) n c l) w2.drew := hS2.below hdr
        have hb21 := bnext hb2 hdr
        clear hdr hS2 hb2
        generalize w2.drew = w21 at *
        refine wpAnyL_take (i := 0) (f0 := 12) (v := ?_) rfl (by decide +kernel) (by decide +kernel) (by decide +kernel) (by decide +kernel) (by decide +kernel) (fun _ _ _ h => h) (Or.inl ⟨by rfl, ?_⟩) hS21 ?_
        rotate_left
        · intro wS hS; go_simp; (try with_reducible rfl)
        simp only [Act.put, List.getElem_toArray, List.getElem_cons_zero, List.setIfInBounds_toArray, List.set_cons_succ, List.set_cons_zero]
        refine wpAnyL_take (i := 1) (f0 := 12) (v := ?_) rfl (by decide +kernel) (by decide +kernel) (by decide +kernel) (by decide +kernel) (by decide +kernel) (fun _ _ _ h => h) (Or.inl ⟨by rfl, ?_⟩) hS21 ?_
        rotate_left
        · intro wS hS; have c9 := iCells0 hS.row; go_simp; (try with_reducible rfl)
        simp only [Act.put, List.getElem_toArray, List.getElem_cons_succ, List.getElem_cons_zero, List.setIfInBounds_toArray, List.set_cons_succ, List.set_cons_zero]
        refine wpAnyL_take (i := 2) (f0 := 12) (v := ?_) rfl (by decide +kernel) (by decide +kernel) (by decide +kernel) (by decide +kernel) (by decide +kernel) (fun _ _ _ h => h) (Or.inl ⟨by rfl, ?_⟩) hS21 ?_
        rotate_left
        · intro wS hS; have c9 := iCells0 hS.row; go_simp; (try with_reducible rfl)
        simp only [Act.put, List.getElem_toArray, List.getElem_cons_succ, List.getElem_cons_zero, List.setIfInBounds_toArray, List.set_cons_succ, List.set_cons_zero]
        refine wpAnyL_take (i := 3) (f0 := 12) (v := ?_) rfl (by decide +kernel) (by decide +kernel) (by decide +kernel) (by decide +kernel) (by decide +kernel) (fun _ _ _ h => h) (Or.inl ⟨by rfl, ?_⟩) hS21 ?_
        rotate_left
        · intro wS hS; go_simp; (try with_reducible rfl)
        simp only [Act.put, List.getElem_toArray, List.getElem_cons_succ, List.getElem_cons_zero, List.setIfInBounds_toArray, List.set_cons_succ, List.set_cons_zero]
        refine wpAnyL_one (i := 4) (by decide +kernel) (by rfl) (fun K hK => ?_)
        rw [if_pos (by rfl)]
        go_simp
        refine (rfind_of l (some ⟨b, off, none⟩) n c HL.out (by omega) y.parent w21 hS21.its (j : Int) HF.out).mono ?_
        rintro e w22 ⟨rfl, hx22⟩
        have hS22 : (CR w.heap.size (some ⟨b, off, none⟩) n c l) w22 := hS21.below hx22
        have hb22 := bnext hb21 hx22
        refine hK.out _ _ (Or.inr hS22) ?_
        clear hK K hS21 hb21 hx22
        try simp only [Act.put, List.getElem_toArray, List.getElem_cons_succ, List.getElem_cons_zero, List.setIfInBounds_toArray, List.set_cons_succ, List.set_cons_zero]
        refine wpAnyL_take (i := 5) (f0 := 12) (v := ?_) rfl (by decide +kernel) (by decide +kernel) (by decide +kernel) (by decide +kernel) (by decide +kernel) (fun _ _ _ h => h) (Or.inl ⟨by rfl, ?_⟩) hS22 ?_
        rotate_left
        · intro wS hS; go_simp; (try with_reducible rfl)
        simp only [Act.put, List.getElem_toArray, List.getElem_cons_succ, List.getElem_cons_zero, List.setIfInBounds_toArray, List.set_cons_succ, List.set_cons_zero]
        refine wpAnyL_take (i := 6) (f0 := 12) (v := ?_) rfl (by decide +kernel) (by decide +kernel) (by decide +kernel) (by decide +kernel) (by decide +kernel) (fun _ _ _ h => h) (Or.inl ⟨by rfl, ?_⟩) hS22 ?_
        rotate_left
        · intro wS hS; go_simp; (try with_reducible rfl)
        simp only [Act.put, List.getElem_toArray, List.getElem_cons_succ, List.getElem_cons_zero, List.setIfInBounds_toArray, List.set_cons_succ, List.set_cons_zero]
        refine wpAnyL_take (i := 7) (f0 := 12) (v := ?_) rfl (by decide +kernel) (by decide +kernel) (by decide +kernel) (by decide +kernel) (by decide +kernel) (fun _ _ _ h => h) (Or.inl ⟨by rfl, ?_⟩) hS22 ?_
        rotate_left
        · intro wS hS; obtain ⟨_, p0, p1, p2, p3, p4, p5, p6⟩ := hS.its.cells hjl x HX.out; go_simp; (try with_reducible rfl)
        simp only [Act.put, List.getElem_toArray, List.getElem_cons_succ, List.getElem_cons_zero, List.setIfInBounds_toArray, List.set_cons_succ, List.set_cons_zero]
        refine wpAnyL_take (i := 8) (f0 := 12) (v := ?_) rfl (by decide +kernel) (by decide +kernel) (by decide +kernel) (by decide +kernel) (by decide +kernel) (fun _ _ _ h => h) (Or.inl ⟨by rfl, ?_⟩) hS22 ?_
        rotate_left
        · intro wS hS; go_simp; (try with_reducible rfl)
        simp only [Act.put, List.getElem_toArray, List.getElem_cons_succ, List.getElem_cons_zero, List.setIfInBounds_toArray, List.set_cons_succ, List.set_cons_zero]
        refine wpAnyL_take (i := 9) (f0 := 12) (v := ?_) rfl (by decide +kernel) (by decide +kernel) (by decide +kernel) (by decide +kernel) (by decide +kernel) (fun _ _ _ h => h) (Or.inl ⟨by rfl, ?_⟩) hS22 ?_
        rotate_left
        · intro wS hS; go_simp; (try with_reducible rfl)
        simp only [Act.put, List.getElem_toArray, List.getElem_cons_succ, List.getElem_cons_zero, List.setIfInBounds_toArray, List.set_cons_succ, List.set_cons_zero]
        refine wpAnyL_done (by decide +kernel) ?_ _
        refine NoPanic.normal ?_
        have E8 := hide (show (x.kind == 1) = R by rw [← E9.out]; exact Bool.eq_iff_iff.2 (by rw [beq_iff_eq, decide_eq_true_eq]))
        go_wp2
        go_ret
        exact ⟨ret_bool E8.out, hb22⟩
      · have hbe := bs_no he
        go_wp2_with fail
        refine (rchainC_of l (some ⟨b, off, none⟩) n c HL.out hn w2 hS2.its i (by omega) vs s HW.out j (by have := HJ.out; omega) o HO.out o.length rfl (by have := HL.out; omega)).mono ?_
        rintro e w3 ⟨⟨A3, c3, rfl, hs3⟩, hx3⟩
        have hS3 := hS2.below hx3
        have hb3 := bnext hb2 hx3
        clear hS2 hb2 hx3 hc q1 hrx
        have hc := iCells0 hS3.row
        go_wp2_with fail
        obtain ⟨U, hU⟩ : ∃ U, Dg.inB o.reverse y.parent = U := ⟨_, rfl⟩
        refine (rin_of o.reverse A3 o.length c3 (by rw [List.length_reverse]) (by have := HL.out; omega) y.parent w3 hs3 U hU).mono ?_
        rintro e w4 ⟨rfl, rfl⟩
        clear hs3
        cases U with
        | false =>
          have E9 := hide (show false = R by rw [← HR2.out, decide_eq_false he, hU]; rfl)
          clear he hU
          go_wp2
          go_ret
          exact ⟨ret_bool E9.out, hb3⟩
        | true =>
          obtain ⟨t, ht, htl, hti⟩ := HOM.out y.parent (List.mem_reverse.1 ((Dg.inB_iff _ _).1 hU))
          obtain ⟨hfx, hfi⟩ := HAT.out t ht htl hti
          obtain ⟨z, hz⟩ : ∃ z, l[t] = z := ⟨_, rfl⟩
          rw [hz] at hfi
          have E9 := hide (show decide (z.kind = 1) = R by rw [← HR2.out, hU, Bool.or_true, hfi]; rfl)
          have HF := hide hfx; have HZ := hide hz
          have ht0 : (0 : Int) ≤ (t : Int) := by omega
          have htn : (t : Int) < (n : Int) := by have := HL.out; omega
          clear he hfx hfi hU hti hz
          go_upto_region 9 with (fail)
          clear hc
          try clear hc1
          try clear hc2
          refine wp_region_noPanic ?_
          refine wp_region_L (CR w.heap.size (some ⟨b, off, none⟩) n c l) 10 hmx ?_
          have hdr := (Below.refl w4.heap.size w4).drew
          have hS21 : (CR w.heap.size (some ⟨b, off, none⟩) n c l) w4.drew := hS3.below hdr
          have hb21 := bnext hb3 hdr
          clear hdr hS3 hb3
          generalize w4.drew = w21 at *
          refine wpAnyL_take (i := 0) (f0 := 12) (v := ?_) rfl (by decide +kernel) (by decide +kernel) (by decide +kernel) (by decide +kernel) (by decide +kernel) (fun _ _ _ h => h) (Or.inl ⟨by rfl, ?_⟩) hS21 ?_
          rotate_left
          · intro wS hS; go_simp; (try with_reducible rfl)
          simp only [Act.put, List.getElem_toArray, List.getElem_cons_zero, List.setIfInBounds_toArray, List.set_cons_succ, List.set_cons_zero]
          refine wpAnyL_take (i := 1) (f0 := 12) (v := ?_) rfl (by decide +kernel) (by decide +kernel) (by decide +kernel) (by decide +kernel) (by decide +kernel) (fun _ _ _ h => h) (Or.inl ⟨by rfl, ?_⟩) hS21 ?_
          rotate_left
          · intro wS hS; have c9 := iCells0 hS.row; go_simp; (try with_reducible rfl)
          simp only [Act.put, List.getElem_toArray, List.getElem_cons_succ, List.getElem_cons_zero, List.setIfInBounds_toArray, List.set_cons_succ, List.set_cons_zero]
          refine wpAnyL_take (i := 2) (f0 := 12) (v := ?_) rfl (by decide +kernel) (by decide +kernel) (by decide +kernel) (by decide +kernel) (by decide +kernel) (fun _ _ _ h => h) (Or.inl ⟨by rfl, ?_⟩) hS21 ?_
          rotate_left
          · intro wS hS; have c9 := iCells0 hS.row; go_simp; (try with_reducible rfl)
          simp only [Act.put, List.getElem_toArray, List.getElem_cons_succ, List.getElem_cons_zero, List.setIfInBounds_toArray, List.set_cons_succ, List.set_cons_zero]
          refine wpAnyL_take (i := 3) (f0 := 12) (v := ?_) rfl (by decide +kernel) (by decide +kernel) (by decide +kernel) (by decide +kernel) (by decide +kernel) (fun _ _ _ h => h) (Or.inl ⟨by rfl, ?_⟩) hS21 ?_
          rotate_left
          · intro wS hS; go_simp; (try with_reducible rfl)
          simp only [Act.put, List.getElem_toArray, List.getElem_cons_succ, List.getElem_cons_zero, List.setIfInBounds_toArray, List.set_cons_succ, List.set_cons_zero]
          refine wpAnyL_one (i := 4) (by decide +kernel) (by rfl) (fun K hK => ?_)
          rw [if_pos (by rfl)]
          go_simp
          refine (rfind_of l (some ⟨b, off, none⟩) n c HL.out (by omega) y.parent w21 hS21.its (t : Int) HF.out).mono ?_
          rintro e w22 ⟨rfl, hx22⟩
          have hS22 : (CR w.heap.size (some ⟨b, off, none⟩) n c l) w22 := hS21.below hx22
          have hb22 := bnext hb21 hx22
          refine hK.out _ _ (Or.inr hS22) ?_
          clear hK K hS21 hb21 hx22
          try simp only [Act.put, List.getElem_toArray, List.getElem_cons_succ, List.getElem_cons_zero, List.setIfInBounds_toArray, List.set_cons_succ, List.set_cons_zero]
          refine wpAnyL_take (i := 5) (f0 := 12) (v := ?_) rfl (by decide +kernel) (by decide +kernel) (by decide +kernel) (by decide +kernel) (by decide +kernel) (fun _ _ _ h => h) (Or.inl ⟨by rfl, ?_⟩) hS22 ?_
          rotate_left
          · intro wS hS; go_simp; (try with_reducible rfl)
          simp only [Act.put, List.getElem_toArray, List.getElem_cons_succ, List.getElem_cons_zero, List.setIfInBounds_toArray, List.set_cons_succ, List.set_cons_zero]
          refine wpAnyL_take (i := 6) (f0 := 12) (v := ?_) rfl (by decide +kernel) (by decide +kernel) (by decide +kernel) (by decide +kernel) (by decide +kernel) (fun _ _ _ h => h) (Or.inl ⟨by rfl, ?_⟩) hS22 ?_
          rotate_left
          · intro wS hS; go_simp; (try with_reducible rfl)
          simp only [Act.put, List.getElem_toArray, List.getElem_cons_succ, List.getElem_cons_zero, List.setIfInBounds_toArray, List.set_cons_succ, List.set_cons_zero]
          refine wpAnyL_take (i := 7) (f0 := 12) (v := ?_) rfl (by decide +kernel) (by decide +kernel) (by decide +kernel) (by decide +kernel) (by decide +kernel) (fun _ _ _ h => h) (Or.inl ⟨by rfl, ?_⟩) hS22 ?_
          rotate_left
          · intro wS hS; obtain ⟨_, p0, p1, p2, p3, p4, p5, p6⟩ := hS.its.cells htl z HZ.out; go_simp; (try with_reducible rfl)
          simp only [Act.put, List.getElem_toArray, List.getElem_cons_succ, List.getElem_cons_zero, List.setIfInBounds_toArray, List.set_cons_succ, List.set_cons_zero]
          refine wpAnyL_take (i := 8) (f0 := 12) (v := ?_) rfl (by decide +kernel) (by decide +kernel) (by decide +kernel) (by decide +kernel) (by decide +kernel) (fun _ _ _ h => h) (Or.inl ⟨by rfl, ?_⟩) hS22 ?_
          rotate_left
          · intro wS hS; go_simp; (try with_reducible rfl)
          simp only [Act.put, List.getElem_toArray, List.getElem_cons_succ, List.getElem_cons_zero, List.setIfInBounds_toArray, List.set_cons_succ, List.set_cons_zero]
          refine wpAnyL_take (i := 9) (f0 := 12) (v := ?_) rfl (by decide +kernel) (by decide +kernel) (by decide +kernel) (by decide +kernel) (by decide +kernel) (fun _ _ _ h => h) (Or.inl ⟨by rfl, ?_⟩) hS22 ?_
          rotate_left
          · intro wS hS; go_simp; (try with_reducible rfl)
          simp only [Act.put, List.getElem_toArray, List.getElem_cons_succ, List.getElem_cons_zero, List.setIfInBounds_toArray, List.set_cons_succ, List.set_cons_zero]
          refine wpAnyL_done (by decide +kernel) ?_ _
          refine NoPanic.normal ?_
          have E8 := hide (show (z.kind == 1) = R by rw [← E9.out]; exact Bool.eq_iff_iff.2 (by rw [beq_iff_eq, decide_eq_true_eq]))
          go_wp2
          go_ret
          exact ⟨ret_bool E8.out, hb22⟩
end Go.Proofs.YtobhpeockinnjaaGreatDoor
/- Names and numbers by the reference. No conditions but those that each theorem states. -/
namespace Go.Proofs.YtobhpeockinnjaaGreatDoor
open Go Go.RowKit Go.Sort Go.Maps
def wordB (c : UInt8) : Bool := Dg.letterB c || Dg.digitB c
theorem nameL_eq (l : List UInt8) : Dg.nameL l = (l.all wordB && match l with | [] => false | c :: _ => Dg.letterB c) := by
  cases l with
  | nil => rfl
  | cons c r =>
    show (Dg.letterB c && r.all wordB) = ((wordB c && r.all wordB) && Dg.letterB c)
    unfold wordB
    cases Dg.letterB c <;> simp
theorem letter_of (c : UInt8) (w : World) :
    Calls Tryz.prog 119 #[.int .u8 (c.toNat : Int)] w fun e w' => e = .returned (.bool (Dg.letterB c)) ∧ w' = w := by
  go_enter Tryz.func119, Tryz.ntmps119
  rcases byte_cls c with ⟨b0, b1, hl⟩ | ⟨b0, b1, hl⟩ | ⟨b0, hl, hd⟩ | ⟨b0, b1, hl, hd⟩ | ⟨b0, hl, hd⟩ | ⟨b0, b1, hl, hd⟩ | ⟨b0, b1, b2, hl, hd⟩ | ⟨b0, hl, hd⟩
  · rw [hl]
    have q0 : 97 ≤ (c.toNat : Int) := by omega
    have q1 : (c.toNat : Int) ≤ 122 := by omega
    have q2 : 65 ≤ (c.toNat : Int) := by omega
    have q3 : ¬ (c.toNat : Int) ≤ 90 := by omega
    clear b0 b1 hl
    go_wp2
    go_ret
    exact ⟨rfl, rfl⟩
  · rw [hl]
    have q0 : ¬ 97 ≤ (c.toNat : Int) := by omega
    have q1 : (c.toNat : Int) ≤ 122 := by omega
    have q2 : 65 ≤ (c.toNat : Int) := by omega
    have q3 : (c.toNat : Int) ≤ 90 := by omega
    clear b0 b1 hl
    go_wp2
    go_ret
    exact ⟨rfl, rfl⟩
  · rw [hl]
    have q0 : ¬ 97 ≤ (c.toNat : Int) := by omega
    have q1 : (c.toNat : Int) ≤ 122 := by omega
    have q2 : 65 ≤ (c.toNat : Int) := by omega
    have q3 : ¬ (c.toNat : Int) ≤ 90 := by omega
    clear b0 hl hd
    go_wp2
    go_ret
    exact ⟨rfl, rfl⟩
  · rw [hl]
    have q0 : ¬ 97 ≤ (c.toNat : Int) := by omega
    have q1 : (c.toNat : Int) ≤ 122 := by omega
    have q2 : ¬ 65 ≤ (c.toNat : Int) := by omega
    have q3 : (c.toNat : Int) ≤ 90 := by omega
    clear b0 b1 hl hd
    go_wp2
    go_ret
    exact ⟨rfl, rfl⟩
  · rw [hl]
    have q0 : ¬ 97 ≤ (c.toNat : Int) := by omega
    have q1 : (c.toNat : Int) ≤ 122 := by omega
    have q2 : ¬ 65 ≤ (c.toNat : Int) := by omega
    have q3 : (c.toNat : Int) ≤ 90 := by omega
    clear b0 hl hd
    go_wp2
    go_ret
    exact ⟨rfl, rfl⟩
  · rw [hl]
    have q0 : ¬ 97 ≤ (c.toNat : Int) := by omega
    have q1 : (c.toNat : Int) ≤ 122 := by omega
    have q2 : ¬ 65 ≤ (c.toNat : Int) := by omega
    have q3 : (c.toNat : Int) ≤ 90 := by omega
    clear b0 b1 hl hd
    go_wp2
    go_ret
    exact ⟨rfl, rfl⟩
  · rw [hl]
    have q0 : ¬ 97 ≤ (c.toNat : Int) := by omega
    have q1 : (c.toNat : Int) ≤ 122 := by omega
    have q2 : 65 ≤ (c.toNat : Int) := by omega
    have q3 : ¬ (c.toNat : Int) ≤ 90 := by omega
    clear b0 b1 b2 hl hd
    go_wp2
    go_ret
    exact ⟨rfl, rfl⟩
  · rw [hl]
    have q0 : 97 ≤ (c.toNat : Int) := by omega
    have q1 : ¬ (c.toNat : Int) ≤ 122 := by omega
    have q2 : 65 ≤ (c.toNat : Int) := by omega
    have q3 : ¬ (c.toNat : Int) ≤ 90 := by omega
    clear b0 hl hd
    go_wp2
    go_ret
    exact ⟨rfl, rfl⟩
theorem digit5_of (c : UInt8) (w : World) :
    Calls Tryz.prog 155 #[.int .u8 (c.toNat : Int)] w fun e w' => e = .returned (.bool (decide (48 ≤ c.toNat ∧ c.toNat ≤ 57))) ∧ w' = w := by
  go_enter Tryz.func155, Tryz.ntmps155
  rcases byte_cls c with ⟨b0, b1, hl⟩ | ⟨b0, b1, hl⟩ | ⟨b0, hl, hd⟩ | ⟨b0, b1, hl, hd⟩ | ⟨b0, hl, hd⟩ | ⟨b0, b1, hl, hd⟩ | ⟨b0, b1, b2, hl, hd⟩ | ⟨b0, hl, hd⟩
  · rw [show decide (48 ≤ c.toNat ∧ c.toNat ≤ 57) = false from decide_eq_false (by omega)]
    have q4 : 48 ≤ (c.toNat : Int) := by omega
    have q5 : ¬ (c.toNat : Int) ≤ 57 := by omega
    clear b0 b1 hl
    go_wp2
    go_ret
    exact ⟨rfl, rfl⟩
  · rw [show decide (48 ≤ c.toNat ∧ c.toNat ≤ 57) = false from decide_eq_false (by omega)]
    have q4 : 48 ≤ (c.toNat : Int) := by omega
    have q5 : ¬ (c.toNat : Int) ≤ 57 := by omega
    clear b0 b1 hl
    go_wp2
    go_ret
    exact ⟨rfl, rfl⟩
  · rw [show decide (48 ≤ c.toNat ∧ c.toNat ≤ 57) = false from decide_eq_false (by omega)]
    have q4 : 48 ≤ (c.toNat : Int) := by omega
    have q5 : ¬ (c.toNat : Int) ≤ 57 := by omega
    clear b0 hl hd
    go_wp2
    go_ret
    exact ⟨rfl, rfl⟩
  · rw [show decide (48 ≤ c.toNat ∧ c.toNat ≤ 57) = true from decide_eq_true (by omega)]
    have q4 : 48 ≤ (c.toNat : Int) := by omega
    have q5 : (c.toNat : Int) ≤ 57 := by omega
    clear b0 b1 hl hd
    go_wp2
    go_ret
    exact ⟨rfl, rfl⟩
  · rw [show decide (48 ≤ c.toNat ∧ c.toNat ≤ 57) = false from decide_eq_false (by omega)]
    have q4 : ¬ 48 ≤ (c.toNat : Int) := by omega
    have q5 : (c.toNat : Int) ≤ 57 := by omega
    clear b0 hl hd
    go_wp2
    go_ret
    exact ⟨rfl, rfl⟩
  · rw [show decide (48 ≤ c.toNat ∧ c.toNat ≤ 57) = false from decide_eq_false (by omega)]
    have q4 : 48 ≤ (c.toNat : Int) := by omega
    have q5 : ¬ (c.toNat : Int) ≤ 57 := by omega
    clear b0 b1 hl hd
    go_wp2
    go_ret
    exact ⟨rfl, rfl⟩
  · rw [show decide (48 ≤ c.toNat ∧ c.toNat ≤ 57) = false from decide_eq_false (by omega)]
    have q4 : 48 ≤ (c.toNat : Int) := by omega
    have q5 : ¬ (c.toNat : Int) ≤ 57 := by omega
    clear b0 b1 b2 hl hd
    go_wp2
    go_ret
    exact ⟨rfl, rfl⟩
  · rw [show decide (48 ≤ c.toNat ∧ c.toNat ≤ 57) = false from decide_eq_false (by omega)]
    have q4 : 48 ≤ (c.toNat : Int) := by omega
    have q5 : ¬ (c.toNat : Int) ≤ 57 := by omega
    clear b0 hl hd
    go_wp2
    go_ret
    exact ⟨rfl, rfl⟩
theorem word5_of (c : UInt8) (w : World) :
    Calls Tryz.prog 118 #[.int .u8 (c.toNat : Int)] w fun e w' => e = .returned (.bool (wordB c)) ∧ w' = w := by
  have HL := letter_of c w
  have HD := digit5_of c w
  rcases byte_cls c with ⟨b0, b1, hl⟩ | ⟨b0, b1, hl⟩ | ⟨b0, hl, hd⟩ | ⟨b0, b1, hl, hd⟩ | ⟨b0, hl, hd⟩ | ⟨b0, b1, hl, hd⟩ | ⟨b0, b1, b2, hl, hd⟩ | ⟨b0, hl, hd⟩
  · have hwd : wordB c = true := by unfold wordB; rw [hl, Bool.true_or]
    rw [hwd]
    rw [hl] at HL
    rw [show decide (48 ≤ c.toNat ∧ c.toNat ≤ 57) = false from decide_eq_false (by omega)] at HD
    have q6 : ((c.toNat : Int) == 95) = false := by rw [beq_eq_false_iff_ne, ne_eq]; omega
    clear b0 b1 hl hwd
    go_enter Tryz.func118, Tryz.ntmps118
    go_wp2_with fail
    refine HL.mono ?_
    rintro e w2 ⟨rfl, rfl⟩
    clear HL
    clear HD
    go_wp2
    go_ret
    exact ⟨rfl, rfl⟩
  · have hwd : wordB c = true := by unfold wordB; rw [hl, Bool.true_or]
    rw [hwd]
    rw [hl] at HL
    rw [show decide (48 ≤ c.toNat ∧ c.toNat ≤ 57) = false from decide_eq_false (by omega)] at HD
    have q6 : ((c.toNat : Int) == 95) = false := by rw [beq_eq_false_iff_ne, ne_eq]; omega
    clear b0 b1 hl hwd
    go_enter Tryz.func118, Tryz.ntmps118
    go_wp2_with fail
    refine HL.mono ?_
    rintro e w2 ⟨rfl, rfl⟩
    clear HL
    clear HD
    go_wp2
    go_ret
    exact ⟨rfl, rfl⟩
  · have hwd : wordB c = true := by unfold wordB; rw [hl, hd]; rfl
    rw [hwd]
    rw [hl] at HL
    rw [show decide (48 ≤ c.toNat ∧ c.toNat ≤ 57) = false from decide_eq_false (by omega)] at HD
    have q6 : ((c.toNat : Int) == 95) = true := by rw [beq_iff_eq]; omega
    clear b0 hl hd hwd
    go_enter Tryz.func118, Tryz.ntmps118
    go_wp2_with fail
    refine HL.mono ?_
    rintro e w2 ⟨rfl, rfl⟩
    clear HL
    go_wp2_with fail
    refine HD.mono ?_
    rintro e w2 ⟨rfl, rfl⟩
    clear HD
    go_wp2
    go_ret
    exact ⟨rfl, rfl⟩
  · have hwd : wordB c = true := by unfold wordB; rw [hl, hd]; rfl
    rw [hwd]
    rw [hl] at HL
    rw [show decide (48 ≤ c.toNat ∧ c.toNat ≤ 57) = true from decide_eq_true (by omega)] at HD
    have q6 : ((c.toNat : Int) == 95) = false := by rw [beq_eq_false_iff_ne, ne_eq]; omega
    clear b0 b1 hl hd hwd
    go_enter Tryz.func118, Tryz.ntmps118
    go_wp2_with fail
    refine HL.mono ?_
    rintro e w2 ⟨rfl, rfl⟩
    clear HL
    go_wp2_with fail
    refine HD.mono ?_
    rintro e w2 ⟨rfl, rfl⟩
    clear HD
    go_wp2
    go_ret
    exact ⟨rfl, rfl⟩
  · have hwd : wordB c = false := by unfold wordB; rw [hl, hd]; rfl
    rw [hwd]
    rw [hl] at HL
    rw [show decide (48 ≤ c.toNat ∧ c.toNat ≤ 57) = false from decide_eq_false (by omega)] at HD
    have q6 : ((c.toNat : Int) == 95) = false := by rw [beq_eq_false_iff_ne, ne_eq]; omega
    clear b0 hl hd hwd
    go_enter Tryz.func118, Tryz.ntmps118
    go_wp2_with fail
    refine HL.mono ?_
    rintro e w2 ⟨rfl, rfl⟩
    clear HL
    go_wp2_with fail
    refine HD.mono ?_
    rintro e w2 ⟨rfl, rfl⟩
    clear HD
    go_wp2
    go_ret
    exact ⟨rfl, rfl⟩
  · have hwd : wordB c = false := by unfold wordB; rw [hl, hd]; rfl
    rw [hwd]
    rw [hl] at HL
    rw [show decide (48 ≤ c.toNat ∧ c.toNat ≤ 57) = false from decide_eq_false (by omega)] at HD
    have q6 : ((c.toNat : Int) == 95) = false := by rw [beq_eq_false_iff_ne, ne_eq]; omega
    clear b0 b1 hl hd hwd
    go_enter Tryz.func118, Tryz.ntmps118
    go_wp2_with fail
    refine HL.mono ?_
    rintro e w2 ⟨rfl, rfl⟩
    clear HL
    go_wp2_with fail
    refine HD.mono ?_
    rintro e w2 ⟨rfl, rfl⟩
    clear HD
    go_wp2
    go_ret
    exact ⟨rfl, rfl⟩
  · have hwd : wordB c = false := by unfold wordB; rw [hl, hd]; rfl
    rw [hwd]
    rw [hl] at HL
    rw [show decide (48 ≤ c.toNat ∧ c.toNat ≤ 57) = false from decide_eq_false (by omega)] at HD
    have q6 : ((c.toNat : Int) == 95) = false := by rw [beq_eq_false_iff_ne, ne_eq]; omega
    clear b0 b1 b2 hl hd hwd
    go_enter Tryz.func118, Tryz.ntmps118
    go_wp2_with fail
    refine HL.mono ?_
    rintro e w2 ⟨rfl, rfl⟩
    clear HL
    go_wp2_with fail
    refine HD.mono ?_
    rintro e w2 ⟨rfl, rfl⟩
    clear HD
    go_wp2
    go_ret
    exact ⟨rfl, rfl⟩
  · have hwd : wordB c = false := by unfold wordB; rw [hl, hd]; rfl
    rw [hwd]
    rw [hl] at HL
    rw [show decide (48 ≤ c.toNat ∧ c.toNat ≤ 57) = false from decide_eq_false (by omega)] at HD
    have q6 : ((c.toNat : Int) == 95) = false := by rw [beq_eq_false_iff_ne, ne_eq]; omega
    clear b0 hl hd hwd
    go_enter Tryz.func118, Tryz.ntmps118
    go_wp2_with fail
    refine HL.mono ?_
    rintro e w2 ⟨rfl, rfl⟩
    clear HL
    go_wp2_with fail
    refine HD.mono ?_
    rintro e w2 ⟨rfl, rfl⟩
    clear HD
    go_wp2
    go_ret
    exact ⟨rfl, rfl⟩
set_option maxHeartbeats 4000000 in
theorem rname_of (s : ByteArray) (R : Bool) (hR : Dg.isNameB s = R) (hs : s.size ≤ 9223372036854775807) (w : World) :
    Calls Tryz.prog 82 #[.string s] w fun e w' => e = .returned (.bool R) ∧ w' = w := by
  have HR := hide hR; clear hR
  go_enter Tryz.func82, Tryz.ntmps82
  go_wp2
  go_loop [3] (fun i => ∃ k : Nat, k ≤ s.size ∧ i = .int .i64 k ∧ Hid (∀ j c, j < k → (Dg.L s)[j]? = some c → wordB c = true)) (fun i => s.size - (intOf i).toNat)
  case atStart => exact ⟨0, by omega, rfl, fun j c hj => by omega⟩
  case round =>
    obtain ⟨k, hk, rfl, hm⟩ := hrel
    by_cases hlt : k < s.size
    · have hc := byte_at hlt
      obtain ⟨c, hcc⟩ : ∃ c, s[k]'hlt = c := ⟨_, rfl⟩
      rw [hcc] at hc
      have HC := hide hc; clear hc
      go_wp2_with fail
      refine (word5_of c w).mono ?_
      rintro e w' ⟨rfl, rfl⟩
      cases hw : wordB c with
      | true =>
        have HW := hide hw; clear hw
        go_wp2
        go_round
        case rel => exact ⟨k + 1, by omega, by go_num, fun j d hj hd => by
          by_cases e : j = k
          · rw [e, HC.out] at hd
            injection hd with hd
            rw [← hd]; exact HW.out
          · exact hm.out j d (by omega) hd⟩
        case measure => simp [intOf]; omega
      | false =>
        have E9 := hide (show false = R by
          rw [← HR.out]
          unfold Dg.isNameB
          rw [nameL_eq, show (Dg.L s).all wordB = false from List.all_eq_false.2 ⟨c, List.mem_of_getElem? HC.out, by rw [hw]; exact Bool.false_ne_true⟩]
          rfl)
        clear hw
        go_wp2
        go_ret
        exact ⟨ret_bool E9.out, rfl⟩
    · obtain rfl : k = s.size := by omega
      have hall : (Dg.L s).all wordB = true := List.all_eq_true.2 fun c hc => by
        obtain ⟨j, hj, rfl⟩ := List.mem_iff_getElem.1 hc
        exact hm.out j _ (by rw [← Dg.len_L]; exact hj) (List.getElem?_eq_getElem hj)
      have HE := hide (show Dg.isNameB s = ((match Dg.L s with | [] => false | c :: _ => Dg.letterB c) && decide (s.size ≤ 24)) by
        unfold Dg.isNameB
        rw [nameL_eq, hall, Bool.true_and])
      clear hall
      by_cases h0 : s.size = 0
      · have h1 : ¬ (0 : Int) < (s.size : Int) := by omega
        have E9 := hide (show false = R by
          rw [← HR.out, HE.out, show Dg.L s = [] from List.eq_nil_of_length_eq_zero (by rw [Dg.len_L]; exact h0)]
          rfl)
        clear h0
        go_wp2
        go_ret
        exact ⟨ret_bool E9.out, rfl⟩
      · have hlt0 : 0 < s.size := by omega
        have h1 : (0 : Int) < (s.size : Int) := by omega
        by_cases h2 : s.size ≤ 24
        · have h3 : (s.size : Int) ≤ 24 := by omega
          have hc := byte_at hlt0
          obtain ⟨c, hcc⟩ : ∃ c, s[0]'hlt0 = c := ⟨_, rfl⟩
          rw [hcc] at hc
          have E9 := hide (show Dg.letterB c = R by
            rw [← HR.out, HE.out, decide_eq_true h2, Bool.and_true]
            cases hL : Dg.L s with
            | nil => rw [hL] at hc; cases hc
            | cons d r => rw [hL] at hc; cases hc; rfl)
          clear hc h0 h2
          go_wp2_with fail
          refine (letter_of c w).mono ?_
          rintro e w' ⟨rfl, rfl⟩
          go_wp2
          go_ret
          exact ⟨ret_bool E9.out, rfl⟩
        · have h3 : ¬ (s.size : Int) ≤ 24 := by omega
          have E9 := hide (show false = R by rw [← HR.out, HE.out, decide_eq_false h2, Bool.and_false])
          clear h0 h2
          go_wp2
          go_ret
          exact ⟨ret_bool E9.out, rfl⟩
set_option maxHeartbeats 4000000 in
theorem rnum_of (s : ByteArray) (R : Bool) (hR : Dg.isNumB s = R) (hs : s.size ≤ 9223372036854775807) (w : World) :
    Calls Tryz.prog 84 #[.string s] w fun e w' => e = .returned (.bool R) ∧ w' = w := by
  have HR := hide hR; clear hR
  go_enter Tryz.func84, Tryz.ntmps84
  go_wp2
  go_loop [3] (fun i => ∃ k : Nat, k ≤ s.size ∧ i = .int .i64 k ∧ Hid (∀ j c, j < k → (Dg.L s)[j]? = some c → Dg.numC c = true)) (fun i => s.size - (intOf i).toNat)
  case atStart => exact ⟨0, by omega, rfl, fun j c hj => by omega⟩
  case round =>
    obtain ⟨k, hk, rfl, hm⟩ := hrel
    by_cases hlt : k < s.size
    · have hc := byte_at hlt
      obtain ⟨c, hcc⟩ : ∃ c, s[k]'hlt = c := ⟨_, rfl⟩
      rw [hcc] at hc
      have HC := hide hc; clear hc
      have hnc : Dg.numC c = decide ((48 ≤ c.toNat ∧ c.toNat ≤ 57) ∨ (97 ≤ c.toNat ∧ c.toNat ≤ 122)) := by
        unfold Dg.numC
        simp [UInt8.le_iff_toNat_le]
      rcases byte_cls c with ⟨b0, b1, hl⟩ | ⟨b0, b1, hl⟩ | ⟨b0, hl, hd⟩ | ⟨b0, b1, hl, hd⟩ | ⟨b0, hl, hd⟩ | ⟨b0, b1, hl, hd⟩ | ⟨b0, b1, b2, hl, hd⟩ | ⟨b0, hl, hd⟩
      · skip
        have q0 : 97 ≤ (c.toNat : Int) := by omega
        have q1 : (c.toNat : Int) ≤ 122 := by omega
        have q4 : 48 ≤ (c.toNat : Int) := by omega
        have q5 : ¬ (c.toNat : Int) ≤ 57 := by omega
        have HW := hide (show Dg.numC c = true by rw [hnc]; exact decide_eq_true (by omega))
        clear hnc
        go_wp2
        go_round
        case rel => exact ⟨k + 1, by omega, by go_num, fun j d hj hd => by
          by_cases e : j = k
          · rw [e, HC.out] at hd
            injection hd with hd
            rw [← hd]; exact HW.out
          · exact hm.out j d (by omega) hd⟩
        case measure => simp [intOf]; omega
      · skip
        have q0 : ¬ 97 ≤ (c.toNat : Int) := by omega
        have q1 : (c.toNat : Int) ≤ 122 := by omega
        have q4 : 48 ≤ (c.toNat : Int) := by omega
        have q5 : ¬ (c.toNat : Int) ≤ 57 := by omega
        have E9 := hide (show false = R by
          rw [← HR.out]
          unfold Dg.isNumB
          rw [show (Dg.L s).all Dg.numC = false from List.all_eq_false.2 ⟨c, List.mem_of_getElem? HC.out, by rw [hnc, decide_eq_false (by omega)]; exact Bool.false_ne_true⟩, Bool.and_false])
        clear hnc
        go_wp2
        go_ret
        exact ⟨ret_bool E9.out, rfl⟩
      · skip
        have q0 : ¬ 97 ≤ (c.toNat : Int) := by omega
        have q1 : (c.toNat : Int) ≤ 122 := by omega
        have q4 : 48 ≤ (c.toNat : Int) := by omega
        have q5 : ¬ (c.toNat : Int) ≤ 57 := by omega
        have E9 := hide (show false = R by
          rw [← HR.out]
          unfold Dg.isNumB
          rw [show (Dg.L s).all Dg.numC = false from List.all_eq_false.2 ⟨c, List.mem_of_getElem? HC.out, by rw [hnc, decide_eq_false (by omega)]; exact Bool.false_ne_true⟩, Bool.and_false])
        clear hnc
        go_wp2
        go_ret
        exact ⟨ret_bool E9.out, rfl⟩
      · skip
        have q0 : ¬ 97 ≤ (c.toNat : Int) := by omega
        have q1 : (c.toNat : Int) ≤ 122 := by omega
        have q4 : 48 ≤ (c.toNat : Int) := by omega
        have q5 : (c.toNat : Int) ≤ 57 := by omega
        have HW := hide (show Dg.numC c = true by rw [hnc]; exact decide_eq_true (by omega))
        clear hnc
        go_wp2
        go_round
        case rel => exact ⟨k + 1, by omega, by go_num, fun j d hj hd => by
          by_cases e : j = k
          · rw [e, HC.out] at hd
            injection hd with hd
            rw [← hd]; exact HW.out
          · exact hm.out j d (by omega) hd⟩
        case measure => simp [intOf]; omega
      · skip
        have q0 : ¬ 97 ≤ (c.toNat : Int) := by omega
        have q1 : (c.toNat : Int) ≤ 122 := by omega
        have q4 : ¬ 48 ≤ (c.toNat : Int) := by omega
        have q5 : (c.toNat : Int) ≤ 57 := by omega
        have E9 := hide (show false = R by
          rw [← HR.out]
          unfold Dg.isNumB
          rw [show (Dg.L s).all Dg.numC = false from List.all_eq_false.2 ⟨c, List.mem_of_getElem? HC.out, by rw [hnc, decide_eq_false (by omega)]; exact Bool.false_ne_true⟩, Bool.and_false])
        clear hnc
        go_wp2
        go_ret
        exact ⟨ret_bool E9.out, rfl⟩
      · skip
        have q0 : ¬ 97 ≤ (c.toNat : Int) := by omega
        have q1 : (c.toNat : Int) ≤ 122 := by omega
        have q4 : 48 ≤ (c.toNat : Int) := by omega
        have q5 : ¬ (c.toNat : Int) ≤ 57 := by omega
        have E9 := hide (show false = R by
          rw [← HR.out]
          unfold Dg.isNumB
          rw [show (Dg.L s).all Dg.numC = false from List.all_eq_false.2 ⟨c, List.mem_of_getElem? HC.out, by rw [hnc, decide_eq_false (by omega)]; exact Bool.false_ne_true⟩, Bool.and_false])
        clear hnc
        go_wp2
        go_ret
        exact ⟨ret_bool E9.out, rfl⟩
      · skip
        have q0 : ¬ 97 ≤ (c.toNat : Int) := by omega
        have q1 : (c.toNat : Int) ≤ 122 := by omega
        have q4 : 48 ≤ (c.toNat : Int) := by omega
        have q5 : ¬ (c.toNat : Int) ≤ 57 := by omega
        have E9 := hide (show false = R by
          rw [← HR.out]
          unfold Dg.isNumB
          rw [show (Dg.L s).all Dg.numC = false from List.all_eq_false.2 ⟨c, List.mem_of_getElem? HC.out, by rw [hnc, decide_eq_false (by omega)]; exact Bool.false_ne_true⟩, Bool.and_false])
        clear hnc
        go_wp2
        go_ret
        exact ⟨ret_bool E9.out, rfl⟩
      · skip
        have q0 : 97 ≤ (c.toNat : Int) := by omega
        have q1 : ¬ (c.toNat : Int) ≤ 122 := by omega
        have q4 : 48 ≤ (c.toNat : Int) := by omega
        have q5 : ¬ (c.toNat : Int) ≤ 57 := by omega
        have E9 := hide (show false = R by
          rw [← HR.out]
          unfold Dg.isNumB
          rw [show (Dg.L s).all Dg.numC = false from List.all_eq_false.2 ⟨c, List.mem_of_getElem? HC.out, by rw [hnc, decide_eq_false (by omega)]; exact Bool.false_ne_true⟩, Bool.and_false])
        clear hnc
        go_wp2
        go_ret
        exact ⟨ret_bool E9.out, rfl⟩
    · obtain rfl : k = s.size := by omega
      have hall : (Dg.L s).all Dg.numC = true := List.all_eq_true.2 fun c hc => by
        obtain ⟨j, hj, rfl⟩ := List.mem_iff_getElem.1 hc
        exact hm.out j _ (by rw [← Dg.len_L]; exact hj) (List.getElem?_eq_getElem hj)
      have HE := hide (show decide (s.size ≤ 8) = R by
        rw [← HR.out]
        unfold Dg.isNumB
        rw [hall, Bool.and_true])
      clear hall
      by_cases h8 : s.size ≤ 8
      · have h3 : (s.size : Int) ≤ 8 := by omega
        have E9 := hide (show true = R by rw [← HE.out, decide_eq_true h8])
        clear h8
        go_wp2
        go_ret
        exact ⟨ret_bool E9.out, rfl⟩
      · have h3 : ¬ (s.size : Int) ≤ 8 := by omega
        have E9 := hide (show false = R by rw [← HE.out, decide_eq_false h8])
        clear h8
        go_wp2
        go_ret
        exact ⟨ret_bool E9.out, rfl⟩
end Go.Proofs.YtobhpeockinnjaaGreatDoor
/- Valid of the reference. No conditions but those that each theorem states. -/
namespace Go.Proofs.YtobhpeockinnjaaGreatDoor
open Go Go.RowKit Go.Sort Go.Maps
theorem valid_no {l : List Dg.It} {k : Nat} (hk : k < l.length) {vs : List (List ByteArray)} {s : Dg.Wk} (hW : Dg.walkTo l k = some (vs, s)) {x : Dg.It} (hx : l[k] = x) (h : Dg.okR l (l.length + 1) k x = false) : Dg.validC l = false := by
  subst hx
  cases hv : Dg.validC l with
  | false => rfl
  | true =>
    obtain ⟨s1, h1, _⟩ := Dg.valid_walk hv
    obtain ⟨s2, h2⟩ := Dg.walk_le (Nat.le_refl _) h1 (k + 1) (by omega)
    obtain ⟨vs0, s0, o0, w0, st0, _⟩ := Dg.walk_step hk h2
    rw [hW] at w0
    injection w0 with w0
    injection w0 with _ w0
    have := Dg.step_ref hk hW (l.length + 1) (by omega)
    rw [w0, st0, h] at this
    cases this
theorem valid_on {l : List Dg.It} {k : Nat} (hk : k < l.length) {vs : List (List ByteArray)} {s : Dg.Wk} (hW : Dg.walkTo l k = some (vs, s)) {x : Dg.It} (hx : l[k] = x) (h : Dg.okR l (l.length + 1) k x = true) : ∃ vs' s', Dg.walkTo l (k + 1) = some (vs', s') := by
  subst hx
  have := Dg.step_ref hk hW (l.length + 1) (by omega)
  rw [h] at this
  rw [Dg.walkTo_succ _ _ hk, hW]
  cases hs : Dg.stepI s l[k] with
  | none => rw [hs] at this; cases this
  | some q => obtain ⟨o, s'⟩ := q; exact ⟨vs ++ [o], s', by simp only [hs]⟩
theorem valid_len {l : List Dg.It} (h : 2000 < l.length) : Dg.validC l = false := by
  unfold Dg.validC
  rw [decide_eq_false (by omega), Bool.and_false]
theorem valid_done {l : List Dg.It} (h : l.length ≤ 2000) {vs : List (List ByteArray)} {s : Dg.Wk} (hW : Dg.walkTo l l.length = some (vs, s)) : Dg.validC l = true := by
  unfold Dg.validC
  rw [hW, decide_eq_true h]
  rfl
/-- A code in its variable with an item. -/
structure CI (g : Nat) (A : Option Addr) (n c : Nat) (l : List Dg.It) (bx : Nat) (x : Dg.It) (X : World) : Prop where
  row : X.heap[g]? = some (.cells #[.slice A n c] 24 (0, 0))
  its : Its X X.heap.size A l
  it : X.heap[bx]? = some (.cells #[.int .i64 x.kind, .string x.id, .string x.parent, .string x.number, .string x.north, .string x.south, .bool x.gone] 26 (0, 0))
theorem CI.below {g : Nat} {A : Option Addr} {n c : Nat} {l : List Dg.It} {bx : Nat} {x : Dg.It} {X X' : World} (h : CI g A n c l bx x X) (hb : Below X.heap.size X X') : CI g A n c l bx x X' := ⟨iNext h.row hb, h.its.keep hb, iNext h.it hb⟩
set_option maxRecDepth 100000 in
set_option maxHeartbeats 16000000 in
theorem rvalidC_of (l : List Dg.It) (A : Option Addr) (n c : Nat) (hl : l.length = n) (hw : ∀ x ∈ l, ItW x) (hn : n ≤ 1048576) (w : World) (hI : Its w w.heap.size A l) (R : Bool) (hR : Dg.validC l = R) :
    Calls Tryz.prog 45 #[.agg #[.slice A n c]] w fun e w' => e = .returned (.bool R) ∧ Below w.heap.size w w' := by
  have hx1 := Below.news (Below.refl w.heap.size w) (.cells #[.slice A n c] 24)
  have hS1 : CR w.heap.size A n c l (w.alloc (.cells #[.slice A n c] 24)) := ⟨heap_alloc_new w _, hI.keep hx1⟩
  have HL := hide hl; have HR := hide hR; have HWW := hide hw
  clear hl hI hR hw
  go_enter Tryz.func45, Tryz.ntmps45
  have hc := iCells0 hS1.row
  by_cases h2 : n ≤ 2000
  · have h2' : ¬ (2000 : Int) < (n : Int) := by omega
    go_wp2
    clear hc h2'
    go_loopw [3] (fun iv wr => ∃ k : Nat, k ≤ n ∧ iv = .int .i64 (k : Int) ∧ Hid (∃ vs s, Dg.walkTo l k = some (vs, s)) ∧ CR w.heap.size A n c l wr ∧ Below w.heap.size w wr) (fun iv _ => n - (intOf iv).toNat)
    case atStart => exact ⟨0, by omega, rfl, ⟨_, _, rfl⟩, hS1, hx1⟩
    case round =>
      clear hS1 hx1
      obtain ⟨k, hk, rfl, hwk, hS, hb⟩ := hrel
      have hc := iCells0 hS.row
      by_cases hlt : k < n
      · have hkn : (k : Int) < (n : Int) := by omega
        have hk0 : (0 : Int) ≤ (k : Int) := by omega
        have hkl : k < l.length := by rw [HL.out]; exact hlt
        obtain ⟨b, off, rfl⟩ := hS.its.some hkl
        obtain ⟨x, hx⟩ : ∃ x, l[k] = x := ⟨_, rfl⟩
        obtain ⟨vs, s, hW⟩ := hwk.out
        obtain ⟨_, p0, p1, p2, p3, p4, p5, p6⟩ := hS.its.cells hkl x hx
        have hxw : ItW x := by rw [← hx]; exact HWW.out _ (List.getElem_mem hkl)
        have hiz := hxw.iz; have hnz := hxw.nz
        obtain ⟨P, hP⟩ : ∃ P, (Dg.kOf s.op l[k].parent).isSome = P := ⟨_, rfl⟩
        have hpr : Dg.placeR l (l.length + 1) k x.parent = P := by rw [← hP, ← hx]; exact Dg.place_eq (by omega) hW (l.length + 1) (by omega) l[k].parent
        obtain ⟨N1, hN1⟩ : ∃ N1, Dg.isNameB x.id = N1 := ⟨_, rfl⟩
        obtain ⟨N2, hN2⟩ : ∃ N2, Dg.isNumB x.number = N2 := ⟨_, rfl⟩
        have hfind : (Dg.inB ((l.take k).map Dg.It.id) x.id = true ∧ ∃ t : Nat, findX l x.id = (t : Int) ∧ t ≠ k) ∨ (Dg.inB ((l.take k).map Dg.It.id) x.id = false ∧ findX l x.id = (k : Int)) := by
          cases hin : Dg.inB ((l.take k).map Dg.It.id) x.id with
          | true =>
            obtain ⟨z, hz, e⟩ := List.mem_map.1 ((Dg.inB_iff _ _).1 hin)
            obtain ⟨t, ht, rfl⟩ := List.mem_take_iff_getElem.1 hz
            exact Or.inl ⟨rfl, t, by rw [← e]; exact findX_walk (by omega) hW (by omega), by omega⟩
          | false => exact Or.inr ⟨rfl, findX_at hkl (by rw [hx]) fun y hy e => (Dg.inB_no _ _).1 hin (List.mem_map.2 ⟨y, hy, e⟩)⟩
        have HX := hide hx; have HW := hide hW; have HP := hide hP; have HPR := hide hpr; have HN1 := hide hN1; have HN2 := hide hN2; have HFD := hide hfind
        clear hx hW hP hpr hN1 hN2 hfind hwk hxw
        go_upto_region 7 with (fail)
        have hx2 := Below.news (Below.refl wr.heap.size wr) (.cells #[.int .i64 x.kind, .string x.id, .string x.parent, .string x.number, .string x.north, .string x.south, .bool x.gone] 26)
        have hS0 : CI w.heap.size (some ⟨b, off, none⟩) n c l wr.heap.size x (wr.alloc (.cells #[.int .i64 x.kind, .string x.id, .string x.parent, .string x.number, .string x.north, .string x.south, .bool x.gone] 26)) := ⟨iNext hS.row hx2, hS.its.keep hx2, heap_alloc_new wr (.cells #[.int .i64 x.kind, .string x.id, .string x.parent, .string x.number, .string x.north, .string x.south, .bool x.gone] 26)⟩
        have hb0 := bnext hb hx2
        clear hS hb hx2 hc p0 p1 p2 p3 p4 p5 p6
        generalize wr.alloc (.cells #[.int .i64 x.kind, .string x.id, .string x.parent, .string x.number, .string x.north, .string x.south, .bool x.gone] 26) = w0 at *
        generalize wr.heap.size = bx at *
        have hc := iCells0 hS0.row
        obtain ⟨c0, c1, c2, c3, c4, c5, c6⟩ := iCells hS0.it
        go_wp2_with fail
        refine (rname_of x.id N1 HN1.out hiz w0).mono ?_
        rintro e w1 ⟨rfl, rfl⟩
        cases N1 with
        | false =>
          have E9 := hide (show false = R by rw [← HR.out]; exact (valid_no hkl HW.out HX.out (by unfold Dg.okR; simp only [HN1.out, Bool.false_and])).symm)
          go_wp2
          go_ret
          exact ⟨ret_bool E9.out, hb0⟩
        | true =>
          rcases HFD.out with ⟨hin, t, hft, htk⟩ | ⟨hin, hft⟩
          · have HFT := hide hft
            have htk2 : ((t : Int) == (k : Int)) = false := beq_eq_false_iff_ne.2 (by omega)
            have htk3 : ((t : Int) != (k : Int)) = true := by rw [bne, htk2]; rfl
            clear hft htk htk2
            have E9 := hide (show false = R by rw [← HR.out]; exact (valid_no hkl HW.out HX.out (by unfold Dg.okR; simp only [hin, Bool.not_true, Bool.false_and, Bool.and_false])).symm)
            clear hin
            go_wp2_with fail
            refine (rfind_of l (some ⟨b, off, none⟩) n c HL.out (by omega) x.id w1 hS0.its (t : Int) HFT.out).mono ?_
            rintro e w2 ⟨rfl, hx2⟩
            have hS2 := hS0.below hx2
            have hb2 := bnext hb0 hx2
            clear hS0 hb0 hx2
            try clear hc c0 c1 c2 c3 c4 c5 c6
            go_wp2
            go_ret
            exact ⟨ret_bool E9.out, hb2⟩
          · have HFT := hide hft; have HIN := hide hin
            clear hft hin
            go_wp2_with fail
            refine (rfind_of l (some ⟨b, off, none⟩) n c HL.out (by omega) x.id w1 hS0.its (k : Int) HFT.out).mono ?_
            rintro e w3 ⟨rfl, hx3⟩
            have hS3 := hS0.below hx3
            have hb3 := bnext hb0 hx3
            clear hS0 hb0 hx3
            try clear hc c0 c1 c2 c3 c4 c5 c6
            have hc := iCells0 hS3.row
            obtain ⟨c0, c1, c2, c3, c4, c5, c6⟩ := iCells hS3.it
            go_wp2_with fail
            refine (rnum_of x.number N2 HN2.out hnz w3).mono ?_
            rintro e w9_ ⟨rfl, rfl⟩
            cases N2 with
            | false =>
              have E9 := hide (show false = R by rw [← HR.out]; exact (valid_no hkl HW.out HX.out (by unfold Dg.okR; simp only [HN2.out, Bool.false_and, Bool.and_false])).symm)
              go_wp2
              go_ret
              exact ⟨ret_bool E9.out, hb3⟩
            | true =>
              have hne : x.north.toList.isEmpty = decide (x.north = Dg.nil8) := (emp_iff _).symm
              have hse : x.south.toList.isEmpty = decide (x.south = Dg.nil8) := (emp_iff _).symm
              by_cases k1 : x.kind = 1
              · have kb1 : (x.kind == 1) = true := beq_iff_eq.2 k1
                have kc1 : (x.kind != 1) = false := by rw [bne, kb1]; rfl
                have dk1 : decide (x.kind = 1) = true := decide_eq_true k1
                have DK := hide dk1
                clear k1 dk1
                cases hN : decide (x.north = Dg.nil8) with
                | false =>
                  rw [hN] at hne
                  have E9 := hide (show false = R by rw [← HR.out]; exact (valid_no hkl HW.out HX.out (by unfold Dg.okR; simp only [DK.out, hN, Bool.not_true, Bool.not_false, Bool.true_and, Bool.false_and, Bool.and_false, Bool.true_or, Bool.and_true])).symm)
                  clear hN
                  go_wp2
                  go_ret
                  exact ⟨ret_bool E9.out, hb3⟩
                | true =>
                  rw [hN] at hne
                  cases hS9 : decide (x.south = Dg.nil8) with
                  | false =>
                    rw [hS9] at hse
                    have E9 := hide (show false = R by rw [← HR.out]; exact (valid_no hkl HW.out HX.out (by unfold Dg.okR; simp only [DK.out, hN, hS9, Bool.not_true, Bool.not_false, Bool.true_and, Bool.false_and, Bool.and_false, Bool.true_or, Bool.or_true, Bool.and_true])).symm)
                    clear hN hS9
                    go_wp2
                    go_ret
                    exact ⟨ret_bool E9.out, hb3⟩
                  | true =>
                    rw [hS9] at hse
                    cases hg : x.gone with
                    | true =>
                      rw [hg] at c6
                      have E9 := hide (show false = R by rw [← HR.out]; exact (valid_no hkl HW.out HX.out (by unfold Dg.okR; simp only [DK.out, hN, hS9, hg, Bool.not_true, Bool.true_and, Bool.false_and, Bool.and_false, Bool.true_or, Bool.or_true, Bool.and_true])).symm)
                      clear hN hS9 hg
                      go_wp2
                      go_ret
                      exact ⟨ret_bool E9.out, hb3⟩
                    | false =>
                      rw [hg] at c6
                      have hz4 : ¬ (400 : Int) < (x.north.size : Int) := by rw [of_decide_eq_true hN]; decide
                      have hz5 : ¬ (400 : Int) < (x.south.size : Int) := by rw [of_decide_eq_true hS9]; decide
                      have HOKP := hide (show Dg.okR l (l.length + 1) k x = P by
                        unfold Dg.okR
                        rw [HPR.out]
                        simp only [HN1.out, HIN.out, HN2.out, DK.out, hN, hS9, hg, decide_eq_true (show x.north.size ≤ 400 by rw [of_decide_eq_true hN]; decide), decide_eq_true (show x.south.size ≤ 400 by rw [of_decide_eq_true hS9]; decide), Bool.not_true, Bool.not_false, Bool.true_and, Bool.and_false, Bool.true_or, Bool.or_false])
                      clear hN hS9 hg
                      go_wp2_with fail
                      refine (place_of l (some ⟨b, off, none⟩) n c HL.out (by omega) w9_ hS3.its k hkl vs s HW.out P HP.out).mono ?_
                      rintro e w4 ⟨rfl, hx4⟩
                      have hS4 := hS3.below hx4
                      have hb4 := bnext hb3 hx4
                      clear hS3 hb3 hx4
                      try clear hc c0 c1 c2 c3 c4 c5 c6
                      cases P with
                      | false =>
                        have E9 := hide (show false = R by rw [← HR.out]; exact (valid_no hkl HW.out HX.out HOKP.out).symm)
                        go_wp2
                        go_ret
                        exact ⟨ret_bool E9.out, hb4⟩
                      | true =>
                        have HS := hS4
                        go_wp2
                        go_roundw
                        case rel => exact ⟨k + 1, by omega, by go_num, valid_on hkl HW.out HX.out HOKP.out, ⟨HS.row, HS.its⟩, hb4⟩
                        case measure => simp [intOf]; omega
              · have kb1 : (x.kind == 1) = false := beq_eq_false_iff_ne.2 k1
                have kc1 : (x.kind != 1) = true := by rw [bne, kb1]; rfl
                have dk1 : decide (x.kind = 1) = false := decide_eq_false k1
                have DK := hide dk1
                clear dk1
                by_cases k2 : x.kind = 2
                · have kb2 : (x.kind == 2) = true := beq_iff_eq.2 k2
                  have kc2 : (x.kind != 2) = false := by rw [bne, kb2]; rfl
                  have dk2 : decide (x.kind = 2) = true := decide_eq_true k2
                  have DK2 := hide dk2
                  clear k1 k2 dk2
                  by_cases z4 : x.north.size ≤ 400
                  · by_cases z5 : x.south.size ≤ 400
                    · skip
                      have hz4 : ¬ (400 : Int) < (x.north.size : Int) := by omega
                      have hz5 : ¬ (400 : Int) < (x.south.size : Int) := by omega
                      have HOKP := hide (show Dg.okR l (l.length + 1) k x = P by
                        unfold Dg.okR
                        rw [HPR.out]
                        simp only [HN1.out, HIN.out, HN2.out, DK.out, DK2.out, decide_eq_true (show x.north.size ≤ 400 by omega), decide_eq_true (show x.south.size ≤ 400 by omega), Bool.not_false, Bool.true_and, Bool.false_and, Bool.or_true])
                      clear z4 z5
                      go_wp2_with fail
                      refine (place_of l (some ⟨b, off, none⟩) n c HL.out (by omega) w9_ hS3.its k hkl vs s HW.out P HP.out).mono ?_
                      rintro e w5 ⟨rfl, hx5⟩
                      have hS5 := hS3.below hx5
                      have hb5 := bnext hb3 hx5
                      clear hS3 hb3 hx5
                      try clear hc c0 c1 c2 c3 c4 c5 c6
                      cases P with
                      | false =>
                        have E9 := hide (show false = R by rw [← HR.out]; exact (valid_no hkl HW.out HX.out HOKP.out).symm)
                        go_wp2
                        go_ret
                        exact ⟨ret_bool E9.out, hb5⟩
                      | true =>
                        have HS := hS5
                        go_wp2
                        go_roundw
                        case rel => exact ⟨k + 1, by omega, by go_num, valid_on hkl HW.out HX.out HOKP.out, ⟨HS.row, HS.its⟩, hb5⟩
                        case measure => simp [intOf]; omega
                    · have hz4 : ¬ (400 : Int) < (x.north.size : Int) := by omega
                      have hz5 : (400 : Int) < (x.south.size : Int) := by omega
                      have dz : decide (x.south.size ≤ 400) = false := decide_eq_false z5
                      have E9 := hide (show false = R by rw [← HR.out]; exact (valid_no hkl HW.out HX.out (by unfold Dg.okR; simp only [dz, Bool.false_and, Bool.and_false])).symm)
                      clear z4 z5 dz
                      go_wp2
                      go_ret
                      exact ⟨ret_bool E9.out, hb3⟩
                  · have hz4 : (400 : Int) < (x.north.size : Int) := by omega
                    have dz : decide (x.north.size ≤ 400) = false := decide_eq_false z4
                    have E9 := hide (show false = R by rw [← HR.out]; exact (valid_no hkl HW.out HX.out (by unfold Dg.okR; simp only [dz, Bool.false_and, Bool.and_false])).symm)
                    clear z4 dz
                    go_wp2
                    go_ret
                    exact ⟨ret_bool E9.out, hb3⟩
                · have kb2 : (x.kind == 2) = false := beq_eq_false_iff_ne.2 k2
                  have kc2 : (x.kind != 2) = true := by rw [bne, kb2]; rfl
                  have dk2 : decide (x.kind = 2) = false := decide_eq_false k2
                  have E9 := hide (show false = R by rw [← HR.out]; exact (valid_no hkl HW.out HX.out (by unfold Dg.okR; simp only [DK.out, dk2, Bool.not_false, Bool.false_and, Bool.and_false, Bool.or_false])).symm)
                  clear k1 k2 dk2
                  go_wp2
                  go_ret
                  exact ⟨ret_bool E9.out, hb3⟩
      · obtain rfl : k = n := by omega
        have E9 := hide (show true = R by
          rw [← HR.out]
          obtain ⟨vs, s, hW⟩ := hwk.out
          exact (valid_done (by have := HL.out; omega) (by rw [HL.out]; exact hW)).symm)
        go_wp2
        go_ret
        exact ⟨ret_bool E9.out, hb⟩
  · have h2' : (2000 : Int) < (n : Int) := by omega
    have E9 := hide (show false = R by rw [← HR.out]; exact (valid_len (by have := HL.out; omega)).symm)
    go_wp2
    go_ret
    exact ⟨ret_bool E9.out, hx1⟩
end Go.Proofs.YtobhpeockinnjaaGreatDoor
/- Leaves of the reference. No conditions but those that each theorem states. -/
namespace Go.Proofs.YtobhpeockinnjaaGreatDoor
open Go Go.RowKit Go.Sort Go.Maps
theorem ret_sl {A : Option Addr} {n m c : Nat} (h : n = m) : Ending.returned (.slice A n c) = .returned (.slice A m c) := by rw [h]
theorem leaves_snoc (l : List Dg.It) (k : Nat) (hk : k < l.length) : Dg.leavesOf (l.take (k + 1)) = Dg.leavesOf (l.take k) ++ (if l[k].gone = true then [] else [Dg.leafI l[k]]) := by
  rw [List.take_succ_eq_append_getElem hk]
  unfold Dg.leavesOf
  rw [List.filter_append, List.map_append]
  congr 1
  cases hg : l[k].gone
  · rw [List.filter_cons_of_pos (by rw [hg]; rfl)]; rfl
  · rw [List.filter_cons_of_neg (by rw [hg]; decide)]; rfl
set_option maxRecDepth 100000 in
set_option maxHeartbeats 8000000 in
theorem rleaves_of (l : List Dg.It) (A : Option Addr) (n c : Nat) (hl : l.length = n) (hw : ∀ x ∈ l, ItW x) (hn : n ≤ 1048576) (w : World) (hI : Its w w.heap.size A l) (hz : ∀ x ∈ l, ∀ s ∈ Dg.fieldsI x, s.size ≤ 1048576) (L : List ByteArray) (hL : Dg.leavesC l = L) (m : Nat) (hm : L.length = m) :
    Calls Tryz.prog 47 #[.agg #[.slice A n c]] w fun e w' => (∃ A' c', e = .returned (.slice A' m c') ∧ m ≤ c' ∧ Strs w' w'.heap.size A' L) ∧ Below w.heap.size w w' := by
  have hx1 := Below.news (Below.refl w.heap.size w) (.cells #[.slice A n c] 24)
  have hS1 : CR w.heap.size A n c l (w.alloc (.cells #[.slice A n c] 24)) := ⟨heap_alloc_new w _, hI.keep hx1⟩
  have HL := hide hl; have HW := hide hw; have HZ := hide hz; have HL7 := hide hL; have HM := hide hm; have HI := hide hI
  clear hl hI hw hz hL hm
  go_enter Tryz.func47, Tryz.ntmps47
  go_wp2_with fail
  generalize w.alloc (.cells #[.slice A n c] 24) = w1 at *
  have hc := iCells0 hS1.row
  go_wp2_with fail
  obtain ⟨V, hV⟩ : ∃ V, Dg.validC l = V := ⟨_, rfl⟩
  refine (rvalidC_of l A n c HL.out HW.out hn w1 hS1.its V hV).mono ?_
  rintro e w2 ⟨rfl, hx⟩
  have hS2 := hS1.below hx
  have hb2 := bnext hx1 hx
  clear hS1 hx1 hx hc
  have hc := iCells0 hS2.row
  cases V with
  | false =>
    have h0 : L = [] := by rw [← HL7.out]; unfold Dg.leavesC; rw [if_neg (by rw [hV]; exact Bool.false_ne_true)]
    have hm0 : m = 0 := by rw [← HM.out, h0]; rfl
    have H0 := hide h0; have HM0 := hide hm0
    clear h0 hm0 hV hc
    go_wp2
    go_ret
    exact ⟨⟨none, 0, ret_sl HM0.out.symm, by rw [HM0.out]; exact Nat.le_refl _, by rw [H0.out]; exact Strs.nil _ _ _⟩, hb2⟩
  | true =>
    have hLV : Dg.leavesOf l = L := by rw [← HL7.out]; unfold Dg.leavesC; rw [if_pos hV]
    have HLV := hide hLV
    clear hLV hV
    have hr2 := hS2.row
    clear hS2
    go_wp2
    clear hc
    go_loopw [3, 4] (fun v iv wr => ∃ k : Nat, k ≤ n ∧ iv = .int .i64 (k : Int) ∧ Below w.heap.size w wr ∧ wr.heap[w.heap.size]? = some (.cells #[.slice A n c] 24 (0, 0)) ∧ OwnS wr (w.heap.size + 1) v (Dg.leavesOf (l.take k))) (fun _ iv _ => n - (intOf iv).toNat)
    case atStart => exact ⟨0, by omega, rfl, hb2, hr2, OwnS.nil _ _⟩
    case round =>
      clear hr2 hb2
      obtain ⟨k, hk, rfl, hb, hr, hO⟩ := hrel
      have hc := iCells0 hr
      by_cases hlt : k < n
      · have hkn : (k : Int) < (n : Int) := by omega
        have hk0 : (0 : Int) ≤ (k : Int) := by omega
        have hkl : k < l.length := by rw [HL.out]; exact hlt
        have hIr := HI.out.below hb
        obtain ⟨b, off, rfl⟩ := hIr.some hkl
        obtain ⟨x, hx⟩ : ∃ x, l[k] = x := ⟨_, rfl⟩
        obtain ⟨_, p0, p1, p2, p3, p4, p5, p6⟩ := hIr.cells hkl x hx
        have hsn := leaves_snoc l k hkl
        rw [hx] at hsn
        have hln : (Dg.leavesOf (l.take k)).length ≤ 1048576 := by
          rw [Dg.leaves_len]
          exact Nat.le_trans List.countP_le_length (by rw [List.length_take]; omega)
        have HX := hide hx; have HSN := hide hsn; have HLN := hide hln
        clear hx hIr hsn hln
        have hx2 := Below.news (Below.refl wr.heap.size wr) (.cells #[.int .i64 x.kind, .string x.id, .string x.parent, .string x.number, .string x.north, .string x.south, .bool x.gone] 26)
        have hrx := heap_alloc_new wr (.cells #[.int .i64 x.kind, .string x.id, .string x.parent, .string x.number, .string x.north, .string x.south, .bool x.gone] 26)
        have hr1 := iNext hr hx2
        have hO1 := OwnS.below hO hx2
        have hb1 := bnext hb hx2
        go_upto_region 8 with (fail)
        clear hO hr hb hc p0 p1 p2 p3 p4 p5 p6 hx2
        generalize wr.alloc (.cells #[.int .i64 x.kind, .string x.id, .string x.parent, .string x.number, .string x.north, .string x.south, .bool x.gone] 26) = w3 at *
        generalize wr.heap.size = bx at *
        obtain ⟨c0, c1, c2, c3, c4, c5, c6⟩ := iCells hrx
        cases hg : x.gone with
        | true =>
          rw [hg] at c6 HSN
          clear hg
          go_wp2
          go_roundw
          case rel => exact ⟨k + 1, by omega, by go_num, hb1, hr1, by rw [HSN.out, if_pos rfl, List.append_nil]; exact hO1⟩
          case measure => simp [intOf]; omega
        | false =>
          rw [hg] at c6 HSN
          have hsz : ∀ s ∈ leafS x, s.size ≤ 1048576 := leafS_size (by decide) (by rw [← HX.out]; exact HZ.out _ (List.getElem_mem hkl))
          go_wp2_with fail
          obtain ⟨K, hK⟩ : ∃ K, Dg.leafI x = K := ⟨_, rfl⟩
          have hrl := rleaf_of x hsz w3 K hK
          rw [hg] at hrl
          refine hrl.mono ?_
          rintro e w4 ⟨rfl, hx4⟩
          have hr4 := iNext hr1 hx4
          have hO4 := OwnS.below hO1 hx4
          have hb4 := bnext hb1 hx4
          have HK := hide hK
          clear hr1 hO1 hb1 hx4 hrl hsz hg hrx c0 c1 c2 c3 c4 c5 c6 hK
          have LITX := hide (Below.news (Below.refl w4.heap.size w4) (.cells #[.string K] 9))
          have Strs1 : Hid (∀ (j : Nat) s, [K][j]? = some s → (w4.alloc (.cells #[.string K] 9)).cell? ((⟨w4.heap.size, 0, none⟩ : Addr).add j) = some (.string s)) := fun j s hj => by
            rw [addr_off, cell_of_row _ _ _ _ _ (0, 0) (heap_alloc_new w4 _), Nat.zero_add, ← Array.getElem?_toList]
            have h9 : ([K].map Value.string)[j]? = some (.string s) := by rw [List.getElem?_map, hj]; rfl
            exact h9
          have HB1 := hide (show w.heap.size + 1 ≤ w4.heap.size by have := lt_of_block hr4; omega)
          have HBW := hide hb4
          go_wp2_with (at_builtin; refine step_ag rfl (.tmp 24) (.tmp 27) rfl (w.heap.size + 1) _ (Dg.leavesOf (l.take k)) [K] rfl (OwnS.below hO4 LITX.out) ⟨w4.heap.size, 0, none⟩ 1 1 rfl rfl (Strs1.out) (by have := HLN.out; omega) (Nat.le_trans HB1.out LITX.out.size) ?_; intro v8 u8 hO8 hg8 hat8)
          have hb8 := grown_up (bnext HBW.out LITX.out) hg8 (fun g hg => by have := (OwnV.lt hO4 hg).1; omega)
          have hr8 := grown_row hg8 (iNext hr4 LITX.out) (fun g hg => by have := (OwnV.lt hO4 hg).1; omega)
          go_roundw
          case rel => exact ⟨k + 1, by omega, by go_num, hb8, hr8, by rw [HSN.out, if_neg (by decide), HK.out]; exact hO8⟩
          case measure => simp [intOf]; omega
      · obtain rfl : k = n := by omega
        have HE := hide (show Dg.leavesOf (l.take k) = L by rw [← HL.out, List.take_length, HLV.out])
        rw [HE.out] at hO
        obtain ⟨A', c', rfl, hcc, hS⟩ := hO.strs
        rw [HM.out] at hcc
        have HCC := hide hcc
        clear hcc
        go_wp2
        go_ret
        exact ⟨⟨A', c', ret_sl HM.out, HCC.out, hS⟩, hb⟩
end Go.Proofs.YtobhpeockinnjaaGreatDoor
/- sync.Once of one goroutine, after the guide's worked proof: the lock, the flag, the slow road with whatever function. No conditions but those that each theorem states. -/
namespace Go.Proofs.YtobhpeockinnjaaGreatDoor
open Go Go.RowKit Go.Sort
theorem setCell_rowN {w : World} {g : Nat} {cs : Array Value} {T : TypeId} (h : w.heap[g]? = some (.cells cs T (0, 0))) (j : Nat) (u : Value) : (w.setCell ⟨g, j, none⟩ u).heap[g]? = some (.cells (cs.setIfInBounds j u) T (0, 0)) := by
  simp only [World.setCell, Array.getElem?_modify, h]
  simp
end Go.Proofs.YtobhpeockinnjaaGreatDoor
/- strings.NewReplacer at three bytes and its build. No conditions but those that each theorem states. -/
namespace Go.Proofs.YtobhpeockinnjaaGreatDoor
open Go Go.RowKit Go.Sort Go.Maps
/-- The row of a byteStringReplacer: what each byte is replaced by, and the bytes to replace. -/
def rowOf (f : Nat → Value) (tr : Value) : Array Value := ((List.range 256).map f ++ [tr]).toArray
/-- The bytes in the order in which they are laid, and what each stands for behind its backslash. -/
def keyL : List Nat := [10, 34, 92]
def escN (c : Nat) : Nat := if c = 10 then 110 else c
end Go.Proofs.YtobhpeockinnjaaGreatDoor
/- Texts of codes, in plain Lean: their lines, how long they are, beginnings. No program in sight. -/
namespace Go.Proofs.YtobhpeockinnjaaGreatDoor.Dg
open Go
end Go.Proofs.YtobhpeockinnjaaGreatDoor.Dg
/- What the replacer hands back. No conditions but those that each theorem states. -/
namespace Go.Proofs.YtobhpeockinnjaaGreatDoor
open Go Go.RowKit Go.Sort Go.Maps
end Go.Proofs.YtobhpeockinnjaaGreatDoor
/- quoted of package code. No conditions but those that each theorem states. -/
namespace Go.Proofs.YtobhpeockinnjaaGreatDoor
open Go Go.RowKit Go.Sort Go.Maps
end Go.Proofs.YtobhpeockinnjaaGreatDoor
/- strings.Builder's WriteString with all that it leaves alone. No conditions but those that each theorem states. -/
namespace Go.Proofs.YtobhpeockinnjaaGreatDoor
open Go Go.RowKit Go.Sort Go.Maps
/-- A builder in block bb, its bytes the call's own from block n0 on. -/
structure BldAt (bb n0 : Nat) (W : World) (v : Value) (l : List UInt8) : Prop where
  row : ∃ p, (p = .pointer none ∨ p = .pointer (some ⟨bb, 0, none⟩)) ∧ W.heap[bb]? = some (.cells #[p, v] 130 (0, 0))
  own : OwnB W n0 v l
theorem OwnB.lt {w : World} {B : Nat} {v : Value} {l : List UInt8} (h : OwnB w B v l) {g : Nat} (hg : v.ownBlock = some g) : B ≤ g ∧ g < w.heap.size := OwnV.lt h.toV hg
theorem OwnB.same {w w' : World} {B : Nat} {v : Value} {l : List UInt8} (h : OwnB w B v l) (hg : ∀ g, v.ownBlock = some g → w'.heap[g]? = w.heap[g]?) : OwnB w' B v l := (OwnV.same h.toV hg).toB
theorem BldAt.same {bb n0 : Nat} {W W' : World} {v : Value} {l : List UInt8} (h : BldAt bb n0 W v l) (hg : ∀ g ∈ outS bb v, W'.heap[g]? = W.heap[g]?) : BldAt bb n0 W' v l :=
  ⟨by obtain ⟨p, hp, hr⟩ := h.row; exact ⟨p, hp, (hg bb (List.mem_cons_self ..)).trans hr⟩, h.own.same fun g hv => hg g (outS_own hv)⟩
theorem BldAt.next {bb n0 : Nat} {W W' : World} {v : Value} {l : List UInt8} (h : BldAt bb n0 W v l) (hb : Below W.heap.size W W') : BldAt bb n0 W' v l :=
  h.same fun g hg => hb.block g (by
    rcases mem_outS hg with rfl | e
    · obtain ⟨p, _, hr⟩ := h.row; exact lt_of_block hr
    · exact (h.own.lt e).2)
end Go.Proofs.YtobhpeockinnjaaGreatDoor
/- A result in a cell; proofs in their variables. No conditions but those that each theorem states. -/
namespace Go.Proofs.YtobhpeockinnjaaGreatDoor
open Go Go.RowKit Go.Sort Go.Maps
theorem results_ct {fn : Func} {p u : Tmp} {ty : TypeId} (h : fn.results = #[.cell p ty, .tmp u]) (tmps : Array Value) (w : World) (g : Nat) (t : TypeId) (cs : Array Value) (fr : Nat × Nat) (fs : Array Field)
    (hp : tmps.getD p undef = .pointer (some ⟨g, 0, none⟩)) (hg : w.heap[g]? = some (.cells cs t fr))
    (hu : Tryz.prog.underlying ty = some (.struct fs)) (hi : (Tryz.prog.info? ty).map (·.size) = some cs.size) :
    (results fn tmps).run Tryz.prog w = .ok (.tuple #[.agg cs, tmps.getD u undef]) w := by
  rw [results_cell_tmp h, hp]
  simp only [asAddr, Sem.run_pure, Result.andThen_ok]
  rw [run_loadVar_row w g t ty cs fr (.struct fs) hg hu rfl hi]
  rfl
/-- Ten cells written. -/
def set10 (X : World) (g : Nat) (v0 v1 v2 v3 v4 v5 v6 v7 v8 v9 : Value) : World := ((((((((((X.setCell ⟨g, 0, none⟩ v0).setCell ⟨g, 1, none⟩ v1).setCell ⟨g, 2, none⟩ v2).setCell ⟨g, 3, none⟩ v3).setCell ⟨g, 4, none⟩ v4).setCell ⟨g, 5, none⟩ v5).setCell ⟨g, 6, none⟩ v6).setCell ⟨g, 7, none⟩ v7).setCell ⟨g, 8, none⟩ v8).setCell ⟨g, 9, none⟩ v9)
theorem set10_row {X : World} {g : Nat} {a0 a1 a2 a3 a4 a5 a6 a7 a8 a9 : Value} {T : TypeId} (h : X.heap[g]? = some (.cells #[a0, a1, a2, a3, a4, a5, a6, a7, a8, a9] T (0, 0))) (v0 v1 v2 v3 v4 v5 v6 v7 v8 v9 : Value) : (set10 X g v0 v1 v2 v3 v4 v5 v6 v7 v8 v9).heap[g]? = some (.cells #[v0, v1, v2, v3, v4, v5, v6, v7, v8, v9] T (0, 0)) := by
  have h0 := setCell_rowN h 0 v0
  simp only [List.setIfInBounds_toArray, List.set_cons_zero] at h0
  have h1 := setCell_rowN h0 1 v1
  simp only [List.setIfInBounds_toArray, List.set_cons_zero, List.set_cons_succ] at h1
  have h2 := setCell_rowN h1 2 v2
  simp only [List.setIfInBounds_toArray, List.set_cons_zero, List.set_cons_succ] at h2
  have h3 := setCell_rowN h2 3 v3
  simp only [List.setIfInBounds_toArray, List.set_cons_zero, List.set_cons_succ] at h3
  have h4 := setCell_rowN h3 4 v4
  simp only [List.setIfInBounds_toArray, List.set_cons_zero, List.set_cons_succ] at h4
  have h5 := setCell_rowN h4 5 v5
  simp only [List.setIfInBounds_toArray, List.set_cons_zero, List.set_cons_succ] at h5
  have h6 := setCell_rowN h5 6 v6
  simp only [List.setIfInBounds_toArray, List.set_cons_zero, List.set_cons_succ] at h6
  have h7 := setCell_rowN h6 7 v7
  simp only [List.setIfInBounds_toArray, List.set_cons_zero, List.set_cons_succ] at h7
  have h8 := setCell_rowN h7 8 v8
  simp only [List.setIfInBounds_toArray, List.set_cons_zero, List.set_cons_succ] at h8
  have h9 := setCell_rowN h8 9 v9
  simp only [List.setIfInBounds_toArray, List.set_cons_zero, List.set_cons_succ] at h9
  unfold set10
  exact h9
theorem set10_below {B : Nat} {a X : World} {g : Nat} (hb : Below B a X) (hg : B ≤ g) (v0 v1 v2 v3 v4 v5 v6 v7 v8 v9 : Value) : Below B a (set10 X g v0 v1 v2 v3 v4 v5 v6 v7 v8 v9) := by
  unfold set10
  exact (((((((((hb.setCell (p := ⟨g, 0, none⟩) hg v0).setCell (p := ⟨g, 1, none⟩) hg v1).setCell (p := ⟨g, 2, none⟩) hg v2).setCell (p := ⟨g, 3, none⟩) hg v3).setCell (p := ⟨g, 4, none⟩) hg v4).setCell (p := ⟨g, 5, none⟩) hg v5).setCell (p := ⟨g, 6, none⟩) hg v6).setCell (p := ⟨g, 7, none⟩) hg v7).setCell (p := ⟨g, 8, none⟩) hg v8).setCell (p := ⟨g, 9, none⟩) hg v9
theorem set10_size (X : World) (g : Nat) (v0 v1 v2 v3 v4 v5 v6 v7 v8 v9 : Value) : (set10 X g v0 v1 v2 v3 v4 v5 v6 v7 v8 v9).heap.size = X.heap.size := by
  unfold set10
  simp [World.setCell]
theorem frz10 {X : World} {g : Nat} {cs : Array Value} {T : TypeId} (h : X.heap[g]? = some (.cells cs T (0, 0))) : X.frozen? ⟨g, 0, none⟩ = false ∧ X.frozen? ⟨g, 1, none⟩ = false ∧ X.frozen? ⟨g, 2, none⟩ = false ∧ X.frozen? ⟨g, 3, none⟩ = false ∧ X.frozen? ⟨g, 4, none⟩ = false ∧ X.frozen? ⟨g, 5, none⟩ = false ∧ X.frozen? ⟨g, 6, none⟩ = false ∧ X.frozen? ⟨g, 7, none⟩ = false ∧ X.frozen? ⟨g, 8, none⟩ = false ∧ X.frozen? ⟨g, 9, none⟩ = false := by
  refine ⟨?_, ?_, ?_, ?_, ?_, ?_, ?_, ?_, ?_, ?_⟩ <;> exact frozen_of_row _ _ _ _ _ h
theorem strs_set {X : World} {B : Nat} {A : Option Addr} {l : List ByteArray} (h : Strs X B A l) {p : Addr} {u : Value} (hc : X.cell? p = some u) (hu : ∀ s ∈ l, u ≠ .string s) (v : Value) : Strs (X.setCell p v) B A l :=
  ⟨fun h0 => by
    obtain ⟨b, off, e, hb, hcs⟩ := h.at_ h0
    refine ⟨b, off, e, hb, fun j s hj => (World.cell?_setCell_other _ _ _ _ fun e2 => hu s (List.mem_of_getElem? hj) ?_).trans (hcs j s hj)⟩
    have := hcs j s hj
    rw [← e2, hc] at this
    injection this⟩
theorem strs_set10 {X : World} {B : Nat} {A : Option Addr} {l : List ByteArray} {g : Nat} {a0 a1 a2 a3 a4 a5 a6 a7 a8 a9 : Value} {T : TypeId} (h : Strs X B A l) (hr : X.heap[g]? = some (.cells #[a0, a1, a2, a3, a4, a5, a6, a7, a8, a9] T (0, 0))) (hu : ∀ s ∈ l, ∀ u : Value, u ∈ [a0, a1, a2, a3, a4, a5, a6, a7, a8, a9] → u ≠ .string s) (v0 v1 v2 v3 v4 v5 v6 v7 v8 v9 : Value) : Strs (set10 X g v0 v1 v2 v3 v4 v5 v6 v7 v8 v9) B A l := by
  obtain ⟨z0, z1, z2, z3, z4, z5, z6, z7, z8, z9⟩ := jCells10 hr
  have h0 := strs_set h z0 (fun s hs => hu s hs _ (by simp)) v0
  have r0 := setCell_rowN hr 0 v0
  simp only [List.setIfInBounds_toArray, List.set_cons_zero] at r0
  have h1 := strs_set h0 (jCells10 r0).2.1 (fun s hs => hu s hs _ (by simp)) v1
  have r1 := setCell_rowN r0 1 v1
  simp only [List.setIfInBounds_toArray, List.set_cons_zero, List.set_cons_succ] at r1
  have h2 := strs_set h1 (jCells10 r1).2.2.1 (fun s hs => hu s hs _ (by simp)) v2
  have r2 := setCell_rowN r1 2 v2
  simp only [List.setIfInBounds_toArray, List.set_cons_zero, List.set_cons_succ] at r2
  have h3 := strs_set h2 (jCells10 r2).2.2.2.1 (fun s hs => hu s hs _ (by simp)) v3
  have r3 := setCell_rowN r2 3 v3
  simp only [List.setIfInBounds_toArray, List.set_cons_zero, List.set_cons_succ] at r3
  have h4 := strs_set h3 (jCells10 r3).2.2.2.2.1 (fun s hs => hu s hs _ (by simp)) v4
  have r4 := setCell_rowN r3 4 v4
  simp only [List.setIfInBounds_toArray, List.set_cons_zero, List.set_cons_succ] at r4
  have h5 := strs_set h4 (jCells10 r4).2.2.2.2.2.1 (fun s hs => hu s hs _ (by simp)) v5
  have r5 := setCell_rowN r4 5 v5
  simp only [List.setIfInBounds_toArray, List.set_cons_zero, List.set_cons_succ] at r5
  have h6 := strs_set h5 (jCells10 r5).2.2.2.2.2.2.1 (fun s hs => hu s hs _ (by simp)) v6
  have r6 := setCell_rowN r5 6 v6
  simp only [List.setIfInBounds_toArray, List.set_cons_zero, List.set_cons_succ] at r6
  have h7 := strs_set h6 (jCells10 r6).2.2.2.2.2.2.2.1 (fun s hs => hu s hs _ (by simp)) v7
  have r7 := setCell_rowN r6 7 v7
  simp only [List.setIfInBounds_toArray, List.set_cons_zero, List.set_cons_succ] at r7
  have h8 := strs_set h7 (jCells10 r7).2.2.2.2.2.2.2.2.1 (fun s hs => hu s hs _ (by simp)) v8
  have r8 := setCell_rowN r7 8 v8
  simp only [List.setIfInBounds_toArray, List.set_cons_zero, List.set_cons_succ] at r8
  have h9 := strs_set h8 (jCells10 r8).2.2.2.2.2.2.2.2.2 (fun s hs => hu s hs _ (by simp)) v9
  have r9 := setCell_rowN r8 9 v9
  simp only [List.setIfInBounds_toArray, List.set_cons_zero, List.set_cons_succ] at r9
  unfold set10
  exact h9
/-- Make's variables. -/
structure MS (w : World) (A : Option Addr) (n c : Nat) (b7 : Nat) (cnt idx : Int) (x : Dg.It) (PP : Value) (X : World) : Prop where
  r2 : X.heap[w.heap.size]? = some (.cells #[.slice A n c] 24 (0, 0))
  r4 : X.heap[w.heap.size + 1 + 1]? = some (.cells #[.int .i64 0, .int .i64 0, .int .i64 0, .string ⟨#[]⟩, .string ⟨#[]⟩, .string ⟨#[]⟩, .string ⟨#[]⟩, .string ⟨#[]⟩, .bool false, .slice none 0 0] 29 (0, 0))
  r7 : X.heap[b7]? = some (.cells #[.int .i64 cnt, .int .i64 idx, .int .i64 x.kind, .string x.id, .string x.parent, .string x.number, .string x.north, .string x.south, .bool x.gone, PP] 29 (0, 0))
  bel : Below w.heap.size w X
  lt : w.heap.size + 1 + 1 < b7
theorem MS.next {w : World} {A : Option Addr} {n c b7 : Nat} {cnt idx : Int} {x : Dg.It} {PP : Value} {X X' : World} (h : MS w A n c b7 cnt idx x PP X) (hb : Below X.heap.size X X') : MS w A n c b7 cnt idx x PP X' :=
  ⟨iNext h.r2 hb, iNext h.r4 hb, iNext h.r7 hb, bnext h.bel hb, h.lt⟩
theorem MS.setIdx {w : World} {A : Option Addr} {n c b7 : Nat} {cnt idx : Int} {x : Dg.It} {PP : Value} {X : World} (h : MS w A n c b7 cnt idx x PP X) (i : Int) : MS w A n c b7 cnt i x PP (X.setCell ⟨b7, 1, none⟩ (.int .i64 i)) :=
  ⟨(Below.heap_setCell _ _ _ _ (by show w.heap.size ≠ b7; have := h.lt; omega)).trans h.r2, (Below.heap_setCell _ _ _ _ (by show w.heap.size + 1 + 1 ≠ b7; have := h.lt; omega)).trans h.r4, setCell_rowN h.r7 1 _, h.bel.setCell (p := ⟨b7, 1, none⟩) (by show w.heap.size ≤ b7; have := h.lt; omega) _, h.lt⟩
theorem MS.setCnt {w : World} {A : Option Addr} {n c b7 : Nat} {cnt idx : Int} {x : Dg.It} {PP : Value} {X : World} (h : MS w A n c b7 cnt idx x PP X) (i : Int) : MS w A n c b7 i idx x PP (X.setCell ⟨b7, 0, none⟩ (.int .i64 i)) :=
  ⟨(Below.heap_setCell _ _ _ _ (by show w.heap.size ≠ b7; have := h.lt; omega)).trans h.r2, (Below.heap_setCell _ _ _ _ (by show w.heap.size + 1 + 1 ≠ b7; have := h.lt; omega)).trans h.r4, setCell_rowN h.r7 0 _, h.bel.setCell (p := ⟨b7, 0, none⟩) (by show w.heap.size ≤ b7; have := h.lt; omega) _, h.lt⟩
theorem MS.setPath {w : World} {A : Option Addr} {n c b7 : Nat} {cnt idx : Int} {x : Dg.It} {PP : Value} {X : World} (h : MS w A n c b7 cnt idx x PP X) (v : Value) : MS w A n c b7 cnt idx x v (X.setCell ⟨b7, 9, none⟩ v) :=
  ⟨(Below.heap_setCell _ _ _ _ (by show w.heap.size ≠ b7; have := h.lt; omega)).trans h.r2, (Below.heap_setCell _ _ _ _ (by show w.heap.size + 1 + 1 ≠ b7; have := h.lt; omega)).trans h.r4, setCell_rowN h.r7 9 _, h.bel.setCell (p := ⟨b7, 9, none⟩) (by show w.heap.size ≤ b7; have := h.lt; omega) _, h.lt⟩
def noPf : Pf := ⟨0, 0, ⟨0, ⟨#[]⟩, ⟨#[]⟩, ⟨#[]⟩, ⟨#[]⟩, ⟨#[]⟩, false⟩, []⟩
/-- How many items ahead of a place are not gone. -/
def idxN (l : List Dg.It) (k : Nat) : Nat := (l.take k).countP fun x => !x.gone
theorem idxN_succ {l : List Dg.It} {k : Nat} (hk : k < l.length) : idxN l (k + 1) = idxN l k + (if l[k].gone = true then 0 else 1) := by
  unfold idxN
  rw [List.take_succ_eq_append_getElem hk, List.countP_append, List.countP_singleton]
  cases l[k].gone <;> rfl
theorem idxN_le (l : List Dg.It) (k : Nat) : idxN l k ≤ k := Nat.le_trans List.countP_le_length (by rw [List.length_take]; omega)
theorem idxN_all (l : List Dg.It) : idxN l l.length = (Dg.leavesOf l).length := by
  unfold idxN
  rw [List.take_length, Dg.leaves_len]
theorem idxN_mono (l : List Dg.It) {j k : Nat} (h : j ≤ k) : idxN l j ≤ idxN l k := by
  unfold idxN
  rw [show l.take j = (l.take k).take j by rw [List.take_take, Nat.min_eq_left h]]
  exact (List.take_sublist j (l.take k)).countP_le
/-- What Make makes. -/
def makeE (l : List Dg.It) (id : ByteArray) : Pf × Int :=
  if Dg.validC l = false then (noPf, 1)
  else match l.findIdx? (fun x => decide (x.id = id)) with
    | none => (noPf, 11)
    | some k => match l[k]? with
      | none => (noPf, 11)
      | some x => if x.gone = true then (noPf, 16) else (⟨((Dg.leavesOf l).length : Nat), (idxN l k : Nat), Dg.bareI x, Dg.path (Dg.leavesOf l) (idxN l k)⟩, 0)
theorem findX_cases (l : List Dg.It) (id : ByteArray) : (l.findIdx? (fun x => decide (x.id = id)) = none ∧ findX l id = -1) ∨ ∃ k, ∃ (h : k < l.length), l.findIdx? (fun x => decide (x.id = id)) = some k ∧ findX l id = (k : Int) ∧ l[k].id = id := by
  cases h : l.findIdx? (fun x => decide (x.id = id)) with
  | none => exact Or.inl ⟨rfl, by unfold findX; rw [h]⟩
  | some k =>
    obtain ⟨hk, h1, _⟩ := List.findIdx?_eq_some_iff_getElem.1 h
    exact Or.inr ⟨k, hk, rfl, by unfold findX; rw [h], of_decide_eq_true h1⟩
end Go.Proofs.YtobhpeockinnjaaGreatDoor
/- Make of package proof. No conditions but those that each theorem states. -/
namespace Go.Proofs.YtobhpeockinnjaaGreatDoor
open Go Go.RowKit Go.Sort Go.Maps
set_option maxHeartbeats 4000000 in
theorem mk1_any (x : Dg.It) (id : ByteArray) (b3 : Nat) (w : World) (r3 : w.heap[b3]? = some (.cells #[.string id] 9 (0, 0))) (R : Bool) (hR : (x.id.toList == id.toList) = R) :
    Calls Tryz.prog 43 #[.agg #[.int .i64 x.kind, .string x.id, .string x.parent, .string x.number, .string x.north, .string x.south, .bool x.gone], .pointer (some ⟨b3, 0, none⟩)] w fun e w' => e = .returned (.bool R) ∧ Below w.heap.size w w' := by
  have hb0 := Below.news (Below.refl w.heap.size w) (.cells #[.int .i64 x.kind, .string x.id, .string x.parent, .string x.number, .string x.north, .string x.south, .bool x.gone] 26)
  have hx0 := heap_alloc_new w (.cells #[.int .i64 x.kind, .string x.id, .string x.parent, .string x.number, .string x.north, .string x.south, .bool x.gone] 26)
  have c3 := iCells0 (iNext r3 hb0)
  obtain ⟨c0, c1, _⟩ := iCells hx0
  go_enter Tryz.func43, Tryz.ntmps43
  go_wp2
  go_ret
  exact ⟨rfl, hb0⟩
set_option maxHeartbeats 4000000 in
theorem mkf_any (l : List Dg.It) (A : Option Addr) (n c : Nat) (hl : l.length = n) (hn : n ≤ 1048576) (id : ByteArray) (b3 : Nat) (w : World) (hI : Its w w.heap.size A l) (r3 : w.heap[b3]? = some (.cells #[.string id] 9 (0, 0))) (K0 : Int) (hK0 : findX l id = K0) :
    Calls Tryz.prog 42 #[.slice A n c, .func (.func 43) #[] #[.pointer (some ⟨b3, 0, none⟩)]] w fun e w' => e = .returned (.int .i64 K0) ∧ Below w.heap.size w w' := by
  have HL := hide hl; have HK0 := hide hK0; have HI := hide hI; have HR3 := hide r3
  clear hl hK0 hI r3
  go_enter Tryz.func42, Tryz.ntmps42
  go_wp2
  go_loopw [8] (fun i wr => ∃ k : Nat, k ≤ n ∧ i = .int .i64 k ∧ Below w.heap.size w wr ∧ Hid (∀ x ∈ l.take k, x.id ≠ id)) (fun i _ => n - (intOf i).toNat)
  case atStart => exact ⟨0, by omega, rfl, Below.refl _ _, fun x hx => by simp at hx⟩
  case round =>
    obtain ⟨k, hk, rfl, hb, hall⟩ := hrel
    by_cases hlt : k < n
    · have hkl : k < l.length := by rw [HL.out]; exact hlt
      have hIr := HI.out.below hb
      obtain ⟨b, off, rfl⟩ := hIr.some hkl
      obtain ⟨x, hx⟩ : ∃ x, l[k] = x := ⟨_, rfl⟩
      obtain ⟨hbl, p0, p1, p2, p3, p4, p5, p6⟩ := hIr.cells hkl x hx
      have HX := hide hx
      clear hx hIr
      have hk0 : (0 : Int) ≤ (k : Int) := by omega
      have hkn : (k : Int) < (n : Int) := by omega
      go_wp2_with fail
      clear p0 p1 p2 p3 p4 p5 p6
      obtain ⟨R, hR⟩ : ∃ R, (x.id.toList == id.toList) = R := ⟨_, rfl⟩
      refine (mk1_any x id b3 _ (iNext HR3.out hb) R hR).mono ?_
      rintro e w2 ⟨rfl, hb2⟩
      have hb3 := bnext hb hb2
      cases R with
      | true =>
        have HF := hide (show (k : Int) = K0 by rw [← HK0.out]; exact (findX_at hkl (by rw [HX.out]; exact (Lib.bytes_beq_iff _ _).1 hR) hall.out).symm)
        clear hR
        go_wp2
        go_ret
        exact ⟨retI HF.out, hb3⟩
      | false =>
        have hne : x.id ≠ id := (Lib.bytes_beq_false_iff _ _).1 hR
        have HA : Hid (∀ y ∈ l.take (k + 1), y.id ≠ id) := fun y hy => by
          rw [List.take_succ_eq_append_getElem hkl, HX.out] at hy
          rcases List.mem_append.1 hy with h | h
          · exact hall.out y h
          · rw [List.mem_singleton.1 h]; exact hne
        clear hR hne
        go_wp2
        go_roundw
        case rel => exact ⟨k + 1, by omega, by go_num, hb3, HA⟩
        case measure => simp [intOf]; omega
    · obtain rfl : k = n := by omega
      have HF := hide (show (-1 : Int) = K0 by rw [← HK0.out]; exact (findX_none (by have h := hall.out; rw [← HL.out, List.take_length] at h; exact h)).symm)
      go_wp2
      go_ret
      exact ⟨retI HF.out, hb⟩
theorem few_up2 {l : List Dg.It} {z y : Nat} (h : ∀ x ∈ l, ∀ s ∈ Dg.fieldsI x, s.size ≤ z) (hzy : z ≤ y) : ∀ x ∈ l, ∀ s ∈ Dg.fieldsI x, s.size ≤ y := fun x hx s hs => Nat.le_trans (h x hx s hs) hzy
set_option maxRecDepth 100000 in
set_option maxHeartbeats 16000000 in
theorem pmake_of (l : List Dg.It) (A : Option Addr) (n c : Nat) (hl : l.length = n) (hw : ∀ x ∈ l, ItW x) (hn : n ≤ 10000) (hnc : n ≤ c) (hz : ∀ x ∈ l, ∀ s ∈ Dg.fieldsI x, s.size ≤ 10000) (id : ByteArray) (w : World) (he : Env w) (hI : Its w w.heap.size A l) (p : Pf) (E : Int) (hE : makeE l id = (p, E)) :
    Calls Tryz.prog 14 #[.agg #[.slice A n c], .string id] w fun e w' => ∃ A9 c9, e = .returned (.tuple #[.agg #[.int .i64 p.count, .int .i64 p.idx, .int .i64 p.it.kind, .string p.it.id, .string p.it.parent, .string p.it.number, .string p.it.north, .string p.it.south, .bool p.it.gone, .slice A9 p.path.length c9], .int .i64 E]) ∧ p.path.length ≤ c9 ∧ Strs w' w'.heap.size A9 p.path ∧ Below w.heap.size w w' := by
  have r2 := iNext (iNext (heap_alloc_new w (.cells #[.slice A n c] 24)) (Below.news (Below.refl _ _) (.cells #[.string id] 9))) (Below.news (Below.refl _ _) (.cells #[.int .i64 0, .int .i64 0, .int .i64 0, .string ⟨#[]⟩, .string ⟨#[]⟩, .string ⟨#[]⟩, .string ⟨#[]⟩, .string ⟨#[]⟩, .bool false, .slice none 0 0] 29))
  have hs1 : (w.alloc (.cells #[.slice A n c] 24)).heap.size = w.heap.size + 1 := by simp
  have r3 := iNext (heap_alloc_new (w.alloc (.cells #[.slice A n c] 24)) (.cells #[.string id] 9)) (Below.news (Below.refl _ _) (.cells #[.int .i64 0, .int .i64 0, .int .i64 0, .string ⟨#[]⟩, .string ⟨#[]⟩, .string ⟨#[]⟩, .string ⟨#[]⟩, .string ⟨#[]⟩, .bool false, .slice none 0 0] 29))
  have r4 := heap_alloc_new ((w.alloc (.cells #[.slice A n c] 24)).alloc (.cells #[.string id] 9)) (.cells #[.int .i64 0, .int .i64 0, .int .i64 0, .string ⟨#[]⟩, .string ⟨#[]⟩, .string ⟨#[]⟩, .string ⟨#[]⟩, .string ⟨#[]⟩, .bool false, .slice none 0 0] 29)
  have hs2 : ((w.alloc (.cells #[.slice A n c] 24)).alloc (.cells #[.string id] 9)).heap.size = w.heap.size + 1 + 1 := by simp
  have hb := bnext (bnext (Below.news (Below.refl w.heap.size w) (.cells #[.slice A n c] 24)) (Below.news (Below.refl _ _) (.cells #[.string id] 9))) (Below.news (Below.refl _ _) (.cells #[.int .i64 0, .int .i64 0, .int .i64 0, .string ⟨#[]⟩, .string ⟨#[]⟩, .string ⟨#[]⟩, .string ⟨#[]⟩, .string ⟨#[]⟩, .bool false, .slice none 0 0] 29))
  rw [hs1] at r3
  rw [hs2] at r4
  have HL := hide hl; have HW := hide hw; have HZ := hide hz; have HI := hide hI; have HEV := hide he; have HE := hide hE
  clear hl hw hz hI he hE hs1 hs2
  have hmf : ∀ (fn : Fn) (first cap : Array Value) (w : World), (Instr.makeFunc fn first cap).run Tryz.prog w = .ok (.func fn first cap) w := fun _ _ _ _ => rfl
  go_enter Tryz.func14, Tryz.ntmps14
  go_upto_region 1 with (fail)
  generalize ((w.alloc (.cells #[.slice A n c] 24)).alloc (.cells #[.string id] 9)).alloc (.cells #[.int .i64 0, .int .i64 0, .int .i64 0, .string ⟨#[]⟩, .string ⟨#[]⟩, .string ⟨#[]⟩, .string ⟨#[]⟩, .string ⟨#[]⟩, .bool false, .slice none 0 0] 29) = w1 at *
  have hc2 := iCells0 r2
  go_wp2_with fail
  obtain ⟨V, hV⟩ : ∃ V, Dg.validC l = V := ⟨_, rfl⟩
  refine (Code.valid_of l A n c HL.out HW.out (by omega) w1 ((HI.out.below hb).more hb.size) V hV).mono ?_
  rintro e w2 ⟨rfl, hx⟩
  have r2' := iNext r2 hx
  have r3' := iNext r3 hx
  have r4' := iNext r4 hx
  have hb2 := bnext hb hx
  clear r2 r3 r4 hb hx hc2
  cases V with
  | false =>
    have E9 := hide (show makeE l id = (noPf, 1) by unfold makeE; rw [if_pos hV])
    have hp9 : (p, E) = (noPf, 1) := by rw [← HE.out, E9.out]
    have HP := hide hp9
    clear hp9
    obtain ⟨zc0, zc1, zc2, zc3, zc4, zc5, zc6, zc7, zc8, zc9⟩ := jCells10 r4'
    obtain ⟨zf0, zf1, zf2, zf3, zf4, zf5, zf6, zf7, zf8, zf9⟩ := frz10 r4'
    go_wp2
    refine bodyPost_ret (results_ct Tryz.results14 _ _ (w.heap.size + 1 + 1) 29 #[.int .i64 0, .int .i64 0, .int .i64 0, .string ⟨#[]⟩, .string ⟨#[]⟩, .string ⟨#[]⟩, .string ⟨#[]⟩, .string ⟨#[]⟩, .bool false, .slice none 0 0] (0, 0) _ rfl (set10_row r4' (.int .i64 0) (.int .i64 0) (.int .i64 0) (.string ⟨#[]⟩) (.string ⟨#[]⟩) (.string ⟨#[]⟩) (.string ⟨#[]⟩) (.string ⟨#[]⟩) (.bool false) (.slice none 0 0)) Tryz.underlying29 (by kernel_rfl)) rfl ⟨none, 0, ?_, ?_, ?_, set10_below hb2 (by omega) (.int .i64 0) (.int .i64 0) (.int .i64 0) (.string ⟨#[]⟩) (.string ⟨#[]⟩) (.string ⟨#[]⟩) (.string ⟨#[]⟩) (.string ⟨#[]⟩) (.bool false) (.slice none 0 0)⟩
    · have := HP.out; injection this with h1 h2; rw [h1, h2]; rfl
    · have := HP.out; injection this with h1 h2; rw [h1]; exact Nat.le_refl _
    · have := HP.out; injection this with h1 h2; rw [h1]; exact Strs.nil _ _ _
  | true =>
    have hc2 := iCells0 r2'
    go_wp2_with fail
    rcases findX_cases l id with ⟨hf1, hf2⟩ | ⟨k, hk, hf1, hf2, hf3⟩
    · refine (mkf_any l A n c HL.out (by omega) id (w.heap.size + 1) w2 ((HI.out.below hb2).more hb2.size) r3' (-1) hf2).mono ?_
      rintro e w3 ⟨rfl, hx⟩
      have r4 := iNext r4' hx
      have hb3 := bnext hb2 hx
      clear r2' r3' r4' hb2 hx hc2
      have E9 := hide (show makeE l id = (noPf, 11) by unfold makeE; rw [if_neg (by rw [hV]; decide), hf1])
      have hp9 : (p, E) = (noPf, 11) := by rw [← HE.out, E9.out]
      have HP := hide hp9
      clear hp9
      obtain ⟨zc0, zc1, zc2, zc3, zc4, zc5, zc6, zc7, zc8, zc9⟩ := jCells10 r4
      obtain ⟨zf0, zf1, zf2, zf3, zf4, zf5, zf6, zf7, zf8, zf9⟩ := frz10 r4
      go_wp2
      refine bodyPost_ret (results_ct Tryz.results14 _ _ (w.heap.size + 1 + 1) 29 #[.int .i64 0, .int .i64 0, .int .i64 0, .string ⟨#[]⟩, .string ⟨#[]⟩, .string ⟨#[]⟩, .string ⟨#[]⟩, .string ⟨#[]⟩, .bool false, .slice none 0 0] (0, 0) _ rfl (set10_row r4 (.int .i64 0) (.int .i64 0) (.int .i64 0) (.string ⟨#[]⟩) (.string ⟨#[]⟩) (.string ⟨#[]⟩) (.string ⟨#[]⟩) (.string ⟨#[]⟩) (.bool false) (.slice none 0 0)) Tryz.underlying29 (by kernel_rfl)) rfl ⟨none, 0, ?_, ?_, ?_, set10_below hb3 (by omega) (.int .i64 0) (.int .i64 0) (.int .i64 0) (.string ⟨#[]⟩) (.string ⟨#[]⟩) (.string ⟨#[]⟩) (.string ⟨#[]⟩) (.string ⟨#[]⟩) (.bool false) (.slice none 0 0)⟩
      · have := HP.out; injection this with h1 h2; rw [h1, h2]; rfl
      · have := HP.out; injection this with h1 h2; rw [h1]; exact Nat.le_refl _
      · have := HP.out; injection this with h1 h2; rw [h1]; exact Strs.nil _ _ _
    · have HF := hide (And.intro hf1 hf3)
      refine (mkf_any l A n c HL.out (by omega) id (w.heap.size + 1) w2 ((HI.out.below hb2).more hb2.size) r3' (k : Int) hf2).mono ?_
      rintro e w3 ⟨rfl, hx⟩
      have r2 := iNext r2' hx
      have r4 := iNext r4' hx
      have hb3 := bnext hb2 hx
      clear r2' r3' r4' hb2 hx hc2 hf1 hf2 hf3
      have hkn : (k : Int) < (n : Int) := by have := HL.out; omega
      have hk0 : (0 : Int) ≤ (k : Int) := by omega
      obtain ⟨b, off, rfl⟩ := (HI.out.below hb3).some hk
      obtain ⟨x, hx⟩ : ∃ x, l[k] = x := ⟨_, rfl⟩
      obtain ⟨_, p0, p1, p2, p3, p4, p5, p6⟩ := (HI.out.below hb3).cells hk x hx
      have hc2 := iCells0 r2
      cases hg : x.gone with
      | true =>
        rw [hg] at p6
        have E9 := hide (show makeE l id = (noPf, 16) by unfold makeE; rw [if_neg (by rw [hV]; decide), HF.out.1]; simp only [List.getElem?_eq_getElem hk, hx, hg, if_pos])
        have hp9 : (p, E) = (noPf, 16) := by rw [← HE.out, E9.out]
        have HP := hide hp9
        clear hp9
        obtain ⟨zc0, zc1, zc2, zc3, zc4, zc5, zc6, zc7, zc8, zc9⟩ := jCells10 r4
        obtain ⟨zf0, zf1, zf2, zf3, zf4, zf5, zf6, zf7, zf8, zf9⟩ := frz10 r4
        go_wp2
        refine bodyPost_ret (results_ct Tryz.results14 _ _ (w.heap.size + 1 + 1) 29 #[.int .i64 0, .int .i64 0, .int .i64 0, .string ⟨#[]⟩, .string ⟨#[]⟩, .string ⟨#[]⟩, .string ⟨#[]⟩, .string ⟨#[]⟩, .bool false, .slice none 0 0] (0, 0) _ rfl (set10_row r4 (.int .i64 0) (.int .i64 0) (.int .i64 0) (.string ⟨#[]⟩) (.string ⟨#[]⟩) (.string ⟨#[]⟩) (.string ⟨#[]⟩) (.string ⟨#[]⟩) (.bool false) (.slice none 0 0)) Tryz.underlying29 (by kernel_rfl)) rfl ⟨none, 0, ?_, ?_, ?_, set10_below hb3 (by omega) (.int .i64 0) (.int .i64 0) (.int .i64 0) (.string ⟨#[]⟩) (.string ⟨#[]⟩) (.string ⟨#[]⟩) (.string ⟨#[]⟩) (.string ⟨#[]⟩) (.bool false) (.slice none 0 0)⟩
        · have := HP.out; injection this with h1 h2; rw [h1, h2]; rfl
        · have := HP.out; injection this with h1 h2; rw [h1]; exact Nat.le_refl _
        · have := HP.out; injection this with h1 h2; rw [h1]; exact Strs.nil _ _ _
      | false =>
        have hix : idxN l k < (Dg.leavesOf l).length := by
          rw [← idxN_all]
          have h1 := idxN_succ hk
          rw [hx, hg, if_neg (by decide)] at h1
          have h2 := idxN_mono l (j := k + 1) (k := l.length) (by omega)
          omega
        have hmk := HE.out
        unfold makeE at hmk
        rw [if_neg (by rw [hV]; decide), HF.out.1] at hmk
        simp only [List.getElem?_eq_getElem hk, hx, hg] at hmk
        rw [if_neg (by decide)] at hmk
        injection hmk with hmp hme
        have HG := hide hg; have HMP := hide hmp; have HME := hide hme; have HIX := hide hix; have HX := hide hx; have HVV := hide hV
        clear hmp hme hix hV
        rw [hg] at p6
        go_upto_region 9 with (fail)
        have hx7 := Below.news (Below.refl w3.heap.size w3) (.cells #[.int .i64 0, .int .i64 0, .int .i64 x.kind, .string x.id, .string x.parent, .string x.number, .string x.north, .string x.south, .bool false, .slice none 0 0] 29)
        have r7 := heap_alloc_new w3 (.cells #[.int .i64 0, .int .i64 0, .int .i64 x.kind, .string x.id, .string x.parent, .string x.number, .string x.north, .string x.south, .bool false, .slice none 0 0] 29)
        have hlt7 : w.heap.size + 1 + 1 < w3.heap.size := lt_of_block r4
        have r2b := iNext r2 hx7
        have r4b := iNext r4 hx7
        have hb7 := bnext hb3 hx7
        clear r2 r4 hb3 hx7 p0 p1 p2 p3 p4 p5 p6 hc2 hg hx
        generalize w3.alloc (.cells #[.int .i64 0, .int .i64 0, .int .i64 x.kind, .string x.id, .string x.parent, .string x.number, .string x.north, .string x.south, .bool false, .slice none 0 0] 29) = w4 at *
        generalize w3.heap.size = b7 at *
        obtain ⟨y0, y1, y2, y3, y4, y5, y6, y7, y8, y9⟩ := jCells10 r7
        have fz5 := frozen_of_row _ _ 5 _ _ r7
        have hc2 := iCells0 r2b
        go_upto_region 10 with (fail)
        obtain ⟨y, hy⟩ : ∃ y, Dg.bareI x = y := ⟨_, rfl⟩
        have hxg : x.gone = false := by
          have := HG.out
          exact this
        have hMS : MS w (some ⟨b, off, none⟩) n c b7 0 (idxN l 0 : Nat) y (.slice none 0 0) (w4.setCell ⟨b7, 5, none⟩ (.string ⟨#[]⟩)) := by
          refine ⟨(Below.heap_setCell _ _ _ _ (by show w.heap.size ≠ b7; omega)).trans r2b, (Below.heap_setCell _ _ _ _ (by show w.heap.size + 1 + 1 ≠ b7; omega)).trans r4b, ?_, hb7.setCell (p := ⟨b7, 5, none⟩) (by show w.heap.size ≤ b7; omega) _, hlt7⟩
          have h9 := setCell_rowN r7 5 (.string ⟨#[]⟩)
          simp only [List.setIfInBounds_toArray, List.set_cons_zero, List.set_cons_succ] at h9
          rw [h9, ← hy]
          unfold Dg.bareI
          simp only [hxg]
          rfl
        have HY := hide hy
        clear r2b r4b hb7 r7 y0 y1 y2 y3 y4 y5 y6 y7 y8 y9 fz5 hc2 hxg hy
        generalize w4.setCell ⟨b7, 5, none⟩ (.string ⟨#[]⟩) = w5 at *
        have hc2 := iCells0 hMS.r2
        have hkc : (k : Int) ≤ (c : Int) := by have := HL.out; omega
        go_wp2
        clear hc2
        go_loopw [44] (fun jv wr => ∃ j : Nat, j ≤ k ∧ jv = .int .i64 (j : Int) ∧ MS w (some ⟨b, off, none⟩) n c b7 0 (idxN l j : Nat) y (.slice none 0 0) wr) (fun jv _ => k - (intOf jv).toNat)
        case atStart => exact ⟨0, by omega, rfl, hMS⟩
        case round =>
          clear hMS
          obtain ⟨j, hj, rfl, hMS⟩ := hrel
          by_cases hlt : j < k
          · have hjl : j < l.length := by omega
            have hjk : (j : Int) < (k : Int) := by omega
            have hj0 : (0 : Int) ≤ (j : Int) := by omega
            obtain ⟨v, hv⟩ : ∃ v, l[j] = v := ⟨_, rfl⟩
            obtain ⟨_, p0, p1, p2, p3, p4, p5, p6⟩ := (HI.out.below hMS.bel).cells hjl v hv
            have hsn := idxN_succ hjl
            rw [hv] at hsn
            have hile := idxN_le l j
            have hjn : j ≤ 10000 := by have := HL.out; omega
            have HSN := hide hsn
            clear hsn hv
            have hx8 := Below.news (Below.refl wr.heap.size wr) (.cells #[.int .i64 v.kind, .string v.id, .string v.parent, .string v.number, .string v.north, .string v.south, .bool v.gone] 26)
            have r8 := heap_alloc_new wr (.cells #[.int .i64 v.kind, .string v.id, .string v.parent, .string v.number, .string v.north, .string v.south, .bool v.gone] 26)
            have hM8 := hMS.next hx8
            go_upto_region 13 with (fail)
            clear hMS hx8 p0 p1 p2 p3 p4 p5 p6
            generalize wr.alloc (.cells #[.int .i64 v.kind, .string v.id, .string v.parent, .string v.number, .string v.north, .string v.south, .bool v.gone] 26) = w8 at *
            generalize wr.heap.size = b8 at *
            obtain ⟨_, _, _, _, _, _, u6⟩ := iCells r8
            cases hvg : v.gone with
            | true =>
              rw [hvg] at u6 HSN
              go_wp2
              go_roundw
              case rel => exact ⟨j + 1, by omega, by go_num, by rw [HSN.out, if_pos rfl, Nat.add_zero]; exact hM8⟩
              case measure => simp [intOf]; omega
            | false =>
              rw [hvg] at u6 HSN
              obtain ⟨_, z1, _⟩ := jCells10 hM8.r7
              have fz1 := frozen_of_row _ _ 1 _ _ hM8.r7
              obtain ⟨q, hq⟩ : ∃ q, idxN l j = q := ⟨_, rfl⟩
              rw [hq] at z1 hile hM8
              have HQ := hide (show idxN l (j + 1) = q + 1 by rw [HSN.out, if_neg (by decide), hq])
              clear hq
              have hM9 := hM8.setIdx ((q : Int) + 1)
              go_wp2
              go_roundw
              case rel => exact ⟨j + 1, by omega, by go_num, by rw [HQ.out]; exact hM9⟩
              case measure => simp [intOf]; omega
          · obtain rfl : j = k := by omega
            have hc2 := iCells0 hMS.r2
            go_wp2_with fail
            obtain ⟨L, hL⟩ : ∃ L, Dg.leavesC l = L := ⟨_, rfl⟩
            have hLo : Dg.leavesOf l = L := by rw [← hL]; unfold Dg.leavesC; rw [if_pos HVV.out]
            refine (Code.leaves_of l (some ⟨b, off, none⟩) n c HL.out HW.out (by omega) wr (HEV.out.next hMS.bel) ((HI.out.below hMS.bel).more hMS.bel.size) (few_up2 HZ.out (by decide)) L hL).mono ?_
            rintro e w9 ⟨⟨A7, c7, rfl, hc7, hS7⟩, hx9⟩
            have hM9 := hMS.next hx9
            clear hMS hx9 hc2
            obtain ⟨m, hm⟩ : ∃ m, L.length = m := ⟨_, rfl⟩
            rw [hm] at hc7 ⊢
            have hmz : m ≤ 10000 := by rw [← hm, ← hLo, Dg.leaves_len]; exact Nat.le_trans List.countP_le_length (by have := HL.out; omega)
            have hzL : ∀ s ∈ L, s.size ≤ 1073741824 := by
              rw [← hLo]
              intro s hs
              unfold Dg.leavesOf at hs
              obtain ⟨v, hv, rfl⟩ := List.mem_map.1 hs
              exact Nat.le_trans (leafI_size (leafS_size (by decide) (fun s hs => Nat.le_trans (HZ.out v (List.mem_filter.1 hv).1 s hs) (by decide)))) (by decide)
            have hixm : idxN l j < m := by rw [← hm, ← hLo]; exact HIX.out
            have HLO := hide hLo; have HMM := hide hm; have HZL := hide hzL
            clear hL hLo hm hzL
            obtain ⟨z0, _⟩ := jCells10 hM9.r7
            have fz0 := frozen_of_row _ _ 0 _ _ hM9.r7
            go_upto_region 18 with (fail)
            have hM10 := hM9.setCnt (m : Int)
            have hS10 := strs_set hS7 z0 (fun s hs => by simp) (.int .i64 (m : Int))
            have hb10 := (Below.refl w9.heap.size w9).size
            have hsz : (w9.setCell ⟨b7, 0, none⟩ (.int .i64 (m : Int))).heap.size = w9.heap.size := by simp [World.setCell]
            rw [← hsz] at hS10
            clear hM9 hS7 z0 fz0 hsz hb10
            generalize w9.setCell ⟨b7, 0, none⟩ (.int .i64 (m : Int)) = w10 at *
            obtain ⟨_, z1, _⟩ := jCells10 hM10.r7
            go_wp2_with fail
            refine (path_any A7 c7 m L (idxN l j) w10 HMM.out (HEV.out.next hM10.bel) hc7 (by omega) HZL.out hS10 hixm).mono ?_
            rintro e w11 ⟨A9, c9, q, rfl, hq1, hq2, hS11, hx11⟩
            have hM11 := hM10.next hx11
            clear hM10 hS10 hx11 z1
            obtain ⟨_, _, _, _, _, _, _, _, _, z9⟩ := jCells10 hM11.r7
            have fz9 := frozen_of_row _ _ 9 _ _ hM11.r7
            go_upto_region 19 with (fail)
            have hM12 := hM11.setPath (.slice A9 q c9)
            have hS12 := strs_set hS11 z9 (fun s hs => by simp) (.slice A9 q c9)
            have hsz : (w11.setCell ⟨b7, 9, none⟩ (.slice A9 q c9)).heap.size = w11.heap.size := by simp [World.setCell]
            rw [← hsz] at hS12
            clear hM11 hS11 z9 fz9 hsz
            generalize w11.setCell ⟨b7, 9, none⟩ (.slice A9 q c9) = w12 at *
            have hpp : p = ⟨(m : Int), (idxN l j : Nat), y, Dg.path L (idxN l j)⟩ := by
              rw [← HMP.out, HLO.out, HMM.out, HY.out]
            have hpz : ∀ s ∈ Dg.path L (idxN l j), s.size = 16 := fun s hs => (Dg.path_sizes L.length L (idxN l j) rfl s hs).2
            have HPP := hide hpp; have HPZ := hide hpz; have HQ1 := hide hq1; have HQ2 := hide hq2
            clear hpp hpz hq1 hq2
            obtain ⟨y0, y1, y2, y3, y4, y5, y6, y7, y8, y9⟩ := jCells10 hM12.r7
            obtain ⟨zc0, zc1, zc2, zc3, zc4, zc5, zc6, zc7, zc8, zc9⟩ := jCells10 hM12.r4
            obtain ⟨zf0, zf1, zf2, zf3, zf4, zf5, zf6, zf7, zf8, zf9⟩ := frz10 hM12.r4
            go_wp2
            refine bodyPost_ret (results_ct Tryz.results14 _ _ (w.heap.size + 1 + 1) 29 #[.int .i64 (m : Int), .int .i64 (idxN l j : Nat), .int .i64 y.kind, .string y.id, .string y.parent, .string y.number, .string y.north, .string y.south, .bool y.gone, .slice A9 q c9] (0, 0) _ rfl (set10_row hM12.r4 (.int .i64 (m : Int)) (.int .i64 (idxN l j : Nat)) (.int .i64 y.kind) (.string y.id) (.string y.parent) (.string y.number) (.string y.north) (.string y.south) (.bool y.gone) (.slice A9 q c9)) Tryz.underlying29 (by kernel_rfl)) rfl ⟨A9, c9, ?_, ?_, ?_, set10_below hM12.bel (by omega) (.int .i64 (m : Int)) (.int .i64 (idxN l j : Nat)) (.int .i64 y.kind) (.string y.id) (.string y.parent) (.string y.number) (.string y.north) (.string y.south) (.bool y.gone) (.slice A9 q c9)⟩
            · rw [HPP.out, ← HME.out]
              simp only [HQ1.out]
              rfl
            · rw [HPP.out]; simp only [HQ1.out]; exact HQ2.out
            · rw [HPP.out]
              have h9 := strs_set10 hS12 hM12.r4 (fun s hs u hu => by
                have := HPZ.out s hs
                simp only [List.mem_cons, List.not_mem_nil, or_false] at hu
                rintro rfl
                rcases hu with h | h | h | h | h | h | h | h | h | h <;> first | (cases h; done) | (injection h with h; rw [h] at this; exact absurd this (by decide))) (.int .i64 (m : Int)) (.int .i64 (idxN l j : Nat)) (.int .i64 y.kind) (.string y.id) (.string y.parent) (.string y.number) (.string y.north) (.string y.south) (.bool y.gone) (.slice A9 q c9)
              refine h9.more ?_
              exact Nat.le_of_eq (set10_size _ _ _ _ _ _ _ _ _ _ _ _).symm
end Go.Proofs.YtobhpeockinnjaaGreatDoor
/- What Verify answers, in plain Lean: its own seals are accepted; what is accepted has its form. No program in sight. -/
namespace Go.Proofs.YtobhpeockinnjaaGreatDoor
open Go Go.RowKit
theorem isB_up (n : Nat) : ∀ (i : Nat) (d : ByteArray) (r : List ByteArray), Dg.isB d = true → Dg.isB (Dg.up n i d r) = true := by
  intro i d r hd
  by_cases h1 : n ≤ 1
  · rw [Dg.up_one _ _ _ _ h1]; exact hd
  · by_cases hi : i < Dg.half n
    · rw [Dg.up_fst _ _ _ _ (by omega) hi]; exact Dg.isB_listB _
    · rw [Dg.up_snd _ _ _ _ (by omega) hi]; exact Dg.isB_listB _
theorem verifyB_iff (p m : ByteArray) (i : Int) (sig path : List ByteArray) : verifyB p m i sig path = true ↔
    sig.length = 18 ∧ path.length ≤ 8 ∧ (∀ s ∈ sig, Dg.isB s = true) ∧ (∀ s ∈ path, Dg.isB s = true) ∧ 0 ≤ i ∧ i < ((2 ^ path.length : Nat) : Int) ∧ Dg.up (2 ^ path.length) i.toNat (Dg.leafB (Dg.listB (Dg.endsB m sig))) path.reverse = p := by
  unfold verifyB checkB allDig
  simp only [Bool.and_eq_true, decide_eq_true_iff, List.all_eq_true]
  constructor
  · rintro ⟨⟨⟨⟨⟨⟨h1, h2⟩, h3⟩, h4⟩, h5⟩, h6⟩, h7, h8, h9, h10⟩
    exact ⟨h1, h2, h3, h4, h5, h6, by rw [Int.toNat_natCast] at h10; exact h10⟩
  · rintro ⟨h1, h2, h3, h4, h5, h6, h7⟩
    have h8 : 2 ^ path.length ≤ 2 ^ 8 := Nat.pow_le_pow_right (by omega) h2
    refine ⟨⟨⟨⟨⟨⟨h1, h2⟩, h3⟩, h4⟩, h5⟩, h6⟩, ⟨by omega, h5, h6⟩, h4, ?_, by rw [Int.toNat_natCast]; exact h7⟩
    rw [Int.toNat_natCast, Dg.length_pow _ _ (by omega)]
theorem verifyB_self (s m : ByteArray) (h i : Nat) (hh : h ≤ 8) (hi : i < 2 ^ h) : verifyB (Dg.publicB s h) m i (Dg.sigB s i m) (Dg.sealPath s h i) = true := by
  have hl := Dg.sealPath_len s h i hi
  refine (verifyB_iff _ _ _ _ _).2 ⟨Dg.sigB_len s i m, by rw [hl]; exact hh, Dg.sigB_isB s i m, Dg.sealPath_isB s h i, by omega, by rw [hl]; omega, ?_⟩
  rw [hl, Int.toNat_natCast, Dg.endsB_sig]
  have h2 : i < (Dg.keysB s h).length := by rw [Dg.keysB_len]; exact hi
  have h3 := Dg.path_up (2 ^ h) (Dg.keysB s h) i h2 (Dg.keysB_len s h)
  rw [Dg.keysB_get s h i h2] at h3
  exact h3
theorem verifyB_digest {p m : ByteArray} {i : Int} {sig path : List ByteArray} (h : verifyB p m i sig path = true) : Dg.isB p = true := by
  obtain ⟨_, _, _, _, _, _, h7⟩ := (verifyB_iff _ _ _ _ _).1 h
  rw [← h7]
  exact isB_up _ _ _ _ (Dg.isB_listB _)
theorem verifyB_not {p m : ByteArray} {i : Int} {sig path : List ByteArray} (h : ¬ (sig.length = 18 ∧ path.length ≤ 8 ∧ 0 ≤ i ∧ i < ((2 ^ path.length : Nat) : Int) ∧ Dg.isB p = true)) : verifyB p m i sig path = false := by
  cases hv : verifyB p m i sig path with
  | false => rfl
  | true =>
    obtain ⟨h1, h2, _, _, h5, h6, _⟩ := (verifyB_iff _ _ _ _ _).1 hv
    exact absurd ⟨h1, h2, h5, h6, verifyB_digest hv⟩ h
theorem isB_16 {l : List ByteArray} (h : ∀ s ∈ l, Dg.isB s = true) : ∀ s ∈ l, s.size = 16 := fun s hs => Dg.isB_len (h s hs)
end Go.Proofs.YtobhpeockinnjaaGreatDoor
/- Shown of the reference: true where two different strings of the list have one digest. -/
namespace Go.Proofs.YtobhpeockinnjaaGreatDoor
open Go Go.RowKit Go.Sort
theorem rsum_of (s r : ByteArray) (hr : Dg.sumB s = r) (hs : s.size ≤ 4611686018427387904) (w : World) :
    Calls Tryz.prog 69 #[.string s] w fun e w' => e = .returned (.string r) ∧ w = w' := by
  subst hr; exact rsum_any s hs w
end Go.Proofs.YtobhpeockinnjaaGreatDoor
/- Power, chained, node, Digits of the reference of layer 3. -/
namespace Go.Proofs.YtobhpeockinnjaaGreatDoor
open Go Go.RowKit Go.Sort
theorem pow_lt62 (k n : Nat) (hk : k ≤ n) (hn : n ≤ 60) : 2 ^ k ≤ 1152921504606846976 := by
  have := Nat.pow_le_pow_right (n := 2) (by omega) (show k ≤ 60 by omega)
  have h2 : 2 ^ 60 = 1152921504606846976 := by decide
  omega
theorem rpower_any (n : Nat) (hn : n ≤ 60) (R : Nat) (hR : 2 ^ n = R) (w : World) :
    Calls Tryz.prog 104 #[.int .i64 n] w fun e w' => e = .returned (.int .i64 R) ∧ w = w' := by
  have HR := hide hR; clear hR
  go_enter Tryz.func104, Tryz.ntmps104
  go_wp2
  go_loop [3, 4] (fun o i => ∃ k : Nat, k ≤ n ∧ i = .int .i64 k ∧ ∃ P : Nat, Hid (2 ^ k = P) ∧ o = .int .i64 P) (fun _ i => n - (intOf i).toNat)
  case atStart => exact ⟨0, by omega, rfl, 1, rfl, rfl⟩
  case round =>
    obtain ⟨k, hk, rfl, P, hP, rfl⟩ := hrel
    have hb := pow_lt62 k n hk hn
    rw [hP.out] at hb
    by_cases hlt : k < n
    · go_wp2
      go_round
      case rel => exact ⟨k + 1, by omega, by go_num, 2 * P, by unfold Hid; rw [Nat.pow_succ, hP.out]; omega, by go_num⟩
      case measure => simp [intOf]; omega
    · obtain rfl : k = n := by omega
      obtain rfl : P = R := hP.out.symm.trans HR.out
      go_wp2
      go_ret
      exact ⟨rfl, rfl⟩
/-- The digits as the reference collects them. -/
def digI (m : ByteArray) (k : Nat) : List Value := (List.range k).map fun j => .int .i64 (Dg.dig m j : Nat)
theorem digI_len (m : ByteArray) (k : Nat) : (digI m k).length = k := by rw [digI, List.length_map, List.length_range]
theorem digI_succ (m : ByteArray) (k : Nat) : digI m (k + 1) = digI m k ++ [.int .i64 (Dg.dig m k : Nat)] := by unfold digI; rw [List.range_succ, List.map_append]; rfl
theorem digI_get (m : ByteArray) (k j : Nat) (h : j < k) : (digI m k)[j]? = some (.int .i64 (Dg.dig m j : Nat)) := by unfold digI; rw [List.getElem?_map, List.getElem?_range h]; rfl
theorem intInf9 : (Tryz.prog.info? 3).map (fun i => (i.zero, i.size, i.bytes)) = some (some (.int .i64 0), 1, 8) := by kernel_rfl
theorem digit_hex (d : Nat) (h : d < 16) : Dg.digit (Dg.hexDigit d) = d := by
  have : ∀ d, d < 16 → Dg.digit (Dg.hexDigit d) = d := by decide +kernel
  exact this d h
theorem rdigit_hex (c : UInt8) (d : Nat) (hd : d < 16) (hc : c = Dg.hexDigit d) (w : World) :
    Calls Tryz.prog 103 #[.int .u8 (c.toNat : Int)] w fun e w' => e = .returned (.int .i64 (d : Int)) ∧ w = w' := by
  have := digit_any c w
  rw [hc, digit_hex d hd] at this
  rw [hc]
  exact this
theorem step_i (w0 : World) {ops : Array Oper} {rest : List Oper} {o : Oper} {a : Act} {Q : Exit → Act → World → Prop} (hgd : o.guard = none) (sl x : Operand)
    (ho : o.op = .call { callee := .builtin .append, args := #[sl, x], argTypes := #[54, 54] })
    (z : Int) (B : Nat) (v : Value) (l : List Value) (hs : a.eval sl = v) (hown : OwnV w0 B 3 v l) (hx : a.eval x = .slice (some ⟨w0.heap.size, 0, none⟩) 1 1)
    (hlen : l.length < 1099511627776) (hB : B ≤ w0.heap.size)
    (h : ∀ v' w', OwnV w' B 3 v' (l ++ [.int .i64 z]) → Below B w0 w' → wpList Tryz.prog ops Q rest (a.put o.dst v') w') : wpList Tryz.prog ops Q (o :: rest) a (w0.alloc (.cells #[.int .i64 z] 3)) :=
  step_one _ hgd sl x 54 3 _ _ ho Tryz.underlying54 intInf9 rfl B v _ hs (OwnV.alloc hown _) ⟨w0.heap.size, 0, none⟩ 1 (.int .i64 z) hx (by rw [cell_of_row _ _ 0 _ _ (0, 0) (heap_alloc_new _ _)]; rfl) rfl hlen (by omega) (by simp; omega) fun v' w' h1 h2 => h v' w' h1 (((Below.refl _ _).alloc hB _).trans h2)
theorem step_i2 (w0 : World) {ops : Array Oper} {rest : List Oper} {o : Oper} {a : Act} {Q : Exit → Act → World → Prop} (hgd : o.guard = none) (sl x : Operand)
    (ho : o.op = .call { callee := .builtin .append, args := #[sl, x], argTypes := #[54, 54] })
    (z y : Int) (B : Nat) (v : Value) (l : List Value) (hs : a.eval sl = v) (hown : OwnV w0 B 3 v l) (hx : a.eval x = .slice (some ⟨w0.heap.size, 0, none⟩) 2 2)
    (hlen : l.length < 1099511627776) (hB : B ≤ w0.heap.size)
    (h : ∀ v' w', OwnV w' B 3 v' (l ++ [.int .i64 z, .int .i64 y]) → Below B w0 w' → wpList Tryz.prog ops Q rest (a.put o.dst v') w') : wpList Tryz.prog ops Q (o :: rest) a (w0.alloc (.cells #[.int .i64 z, .int .i64 y] 3)) := by
  obtain ⟨i, h2, h3, h4, h5⟩ := info_parts intInf9
  have hown1 := OwnV.alloc hown (.cells #[.int .i64 z, .int .i64 y] 3)
  refine wpList_append_own _ hgd sl x 54 ho B 3 i (.int .i64 0) 1 8 Tryz.underlying54 h2 h3 h4 h5 rfl (by omega) v l.length l hs hown1 ⟨w0.heap.size, 0, none⟩ 2 2 [.int .i64 z, .int .i64 y] hx rfl ?_ ?_ (by unfold maxLen; omega) (by omega) (by simp; omega) fun v' w' hown' hg _ => h v' w' ?_ (((Below.refl _ _).alloc hB _).trans (below_own hown1 hg (by simp; omega)))
  · intro j u' hj
    rw [add_off0, cell_of_row _ _ _ _ _ (0, 0) (heap_alloc_new _ _), ← Array.getElem?_toList]
    exact hj
  · intro u' hu'
    rcases List.mem_cons.1 hu' with rfl | hu'
    · rfl
    · rw [List.mem_singleton.1 hu']; rfl
  · unfold OwnV
    rw [List.length_append]
    exact hown'
set_option maxHeartbeats 1000000 in
theorem rdigs_any (m : ByteArray) (hm : m.size ≤ 4611686018427387904) (w : World) :
    Calls Tryz.prog 105 #[.string m] w fun e w' => (∃ v, e = .returned v ∧ OwnV w' w.heap.size 3 v (digI m 18)) ∧ Below w.heap.size w w' := by
  have hsz := Dg.sumB_size m
  generalize hS : Dg.sumB m = S at *
  have HS := hide hS; clear hS
  go_enter Tryz.func105, Tryz.ntmps105
  go_wp2_with fail
  refine (rsum_of m S HS.out hm _).mono ?_
  rintro e w1 ⟨rfl, rfl⟩
  go_wp2
  go_loopw [4, 5, 6] (fun v r i wr => ∃ k : Nat, k ≤ 16 ∧ i = .int .i64 k ∧ Below w.heap.size w wr ∧ r = .int .i64 (Dg.restTo m k : Nat) ∧ OwnV wr w.heap.size 3 v (digI m k)) (fun _ _ i _ => 16 - (intOf i).toNat)
  case atStart => exact ⟨0, by omega, rfl, Below.refl _ _, rfl, OwnV.nil _ _ _⟩
  case round =>
    obtain ⟨k, hk, rfl, hb, rfl, hO⟩ := hrel
    have hrl := Dg.restTo_le m k
    by_cases hlt : k < 16
    · have hg := sumB_get m k hlt
      have hdl := Dg.dgt_lt m k
      have hrs : Dg.restTo m (k + 1) = Dg.restTo m k + (15 - Dg.dgt m k) := rfl
      have hds := digI_succ m k
      rw [Dg.dig_lo m k hlt] at hds
      rw [HS.out] at hg
      have hcl : (digI m k).length < 1099511627776 := by rw [digI_len]; omega
      generalize Dg.dgt m k = d at *
      have hg' := hide (get_of_L S k d hg (by omega)); have hrs' := hide hrs; have hds' := hide hds; clear hg hrs hds
      generalize Dg.restTo m k = r at *
      generalize digI m k = q at *
      go_wp2_with fail
      refine (rdigit_hex _ d hdl hg'.out _).mono ?_
      rintro e w1 ⟨rfl, rfl⟩
      go_wp2_with (at_builtin; refine step_i wr rfl (.tmp 20) (.tmp 22) rfl d w.heap.size _ q rfl hO rfl hcl hb.size ?_; intro v' w2 hO2 hb2)
      go_roundw
      case rel => exact ⟨k + 1, by omega, by go_num, hb.trans hb2, by rw [hrs'.out]; go_num, by rw [hds'.out]; exact hO2⟩
      case measure => simp [intOf]; omega
    · obtain rfl : k = 16 := by omega
      have hds := hide (digI_succ m 16)
      have hds2 := hide (digI_succ m 17)
      have hcl : (digI m 16).length < 1099511627776 := by rw [digI_len]; omega
      rw [Dg.dig_16] at hds
      rw [Dg.dig_17] at hds2
      generalize Dg.restTo m 16 = r at *
      have hE : Hid (digI m 18 = digI m 16 ++ [.int .i64 ((r : Int) / 16), .int .i64 ((r : Int) % 16)]) := by
        unfold Hid
        rw [hds2.out, hds.out, List.append_assoc]
        rfl
      generalize digI m 16 = q at *
      go_wp2_with (at_builtin; refine step_i2 wr rfl (.tmp 28) (.tmp 33) rfl ((r : Int) / 16) ((r : Int) % 16) w.heap.size _ q rfl hO rfl hcl hb.size ?_; intro v' w2 hO2 hb2)
      go_ret
      exact ⟨⟨_, rfl, by rw [hE.out]; exact hO2⟩, hb.trans hb2⟩
end Go.Proofs.YtobhpeockinnjaaGreatDoor
/- Same, Few of the reference of layer 3. -/
namespace Go.Proofs.YtobhpeockinnjaaGreatDoor
open Go Go.RowKit Go.Sort
end Go.Proofs.YtobhpeockinnjaaGreatDoor
/- head and short of pandectlaw03. -/
namespace Go.Proofs.YtobhpeockinnjaaGreatDoor
open Go Go.RowKit Go.Sort
theorem public_of (s : ByteArray) (H : Int) (h : Nat) (hH : H = h) (hs : s.size ≤ 1073741824) (hh : h ≤ 8) (R : ByteArray) (hR : Dg.publicB s h = R) (w : World) (he : Env w) :
    Calls Tryz.prog 56 #[.string s, .int .i64 H] w fun e w' => e = .returned (.tuple #[.string R, .int .i64 0]) ∧ Below w.heap.size w w' := by
  subst hH; exact public_any s h hs hh R hR w he
/-- What Sign hands back, with open texts. -/
def SealIs (i : Nat) (h : Nat) (sig path : List ByteArray) (w : World) (e : Ending) (w' : World) : Prop :=
  ∃ A c A' c', e = .returned (.tuple #[.agg #[.int .i64 i, .slice A 18 c, .slice A' h c'], .int .i64 0]) ∧ 18 ≤ c ∧ h ≤ c' ∧ Strs w' w'.heap.size A sig ∧ Strs w' w'.heap.size A' path ∧ Below w.heap.size w w'
theorem sign_of (s m : ByteArray) (H I : Int) (h i : Nat) (hH : H = h) (hI : I = i) (hs : s.size ≤ 1073741824) (hm : m.size ≤ 9223372036854775807) (hh : h ≤ 8) (hi : i < 2 ^ h) (sig path : List ByteArray) (h1 : Dg.sigB s i m = sig) (h2 : Dg.sealPath s h i = path) (w : World) (he : Env w) :
    Calls Tryz.prog 57 #[.string s, .int .i64 H, .int .i64 I, .string m] w (SealIs i h sig path w) := by
  subst hH hI h1 h2; exact sign_any s m h i hs hm hh hi w he
theorem cells3 {w : World} {g : Nat} {a b c : Value} {T : TypeId} (h : w.heap[g]? = some (.cells #[a, b, c] T (0, 0))) : w.cell? ⟨g, 0, none⟩ = some a ∧ w.cell? ⟨g, 1, none⟩ = some b ∧ w.cell? ⟨g, 2, none⟩ = some c := by
  refine ⟨?_, ?_, ?_⟩ <;> (rw [cell_of_row _ _ _ _ _ (0, 0) h]; rfl)
end Go.Proofs.YtobhpeockinnjaaGreatDoor
/- signed and example of pandectlaw44. No conditions but those that each theorem states. -/
namespace Go.Proofs.YtobhpeockinnjaaGreatDoor
open Go Go.RowKit Go.Sort Go.Maps
attribute [local go_sem] Oper.semAt_some
theorem results_tmp_cell {fn : Func} {p u : Tmp} {ty : TypeId} (h : fn.results = #[.tmp u, .cell p ty]) (tmps : Array Value) (P : Program) (w : World) :
    (results fn tmps).run P w =
      ((asAddr (tmps.getD p undef)).run P w).andThen fun a w₁ => ((loadVar ty a).run P w₁).andThen fun v w₂ => .ok (.tuple #[tmps.getD u undef, v]) w₂ := by
  simp only [results, h]
  simp [Sem.run_bind, Result.andThen]
theorem results_tc {fn : Func} {p u : Tmp} {ty : TypeId} (h : fn.results = #[.tmp u, .cell p ty]) (tmps : Array Value) (w : World) (g : Nat) (t : TypeId) (cs : Array Value) (fr : Nat × Nat) (fs : Array Field)
    (hp : tmps.getD p undef = .pointer (some ⟨g, 0, none⟩)) (hg : w.heap[g]? = some (.cells cs t fr))
    (hu : Tryz.prog.underlying ty = some (.struct fs)) (hi : (Tryz.prog.info? ty).map (·.size) = some cs.size) :
    (results fn tmps).run Tryz.prog w = .ok (.tuple #[tmps.getD u undef, .agg cs]) w := by
  rw [results_tmp_cell h, hp]
  simp only [asAddr, Sem.run_pure, Result.andThen_ok]
  rw [run_loadVar_row w g t ty cs fr (.struct fs) hg hu rfl hi]
  rfl
/-- Three cells written. -/
def set3 (X : World) (g : Nat) (v0 v1 v2 : Value) : World := ((X.setCell ⟨g, 0, none⟩ v0).setCell ⟨g, 1, none⟩ v1).setCell ⟨g, 2, none⟩ v2
theorem set3_row {X : World} {g : Nat} {a0 a1 a2 : Value} {T : TypeId} (h : X.heap[g]? = some (.cells #[a0, a1, a2] T (0, 0))) (v0 v1 v2 : Value) : (set3 X g v0 v1 v2).heap[g]? = some (.cells #[v0, v1, v2] T (0, 0)) := by
  have h0 := setCell_rowN h 0 v0
  simp only [List.setIfInBounds_toArray, List.set_cons_zero] at h0
  have h1 := setCell_rowN h0 1 v1
  simp only [List.setIfInBounds_toArray, List.set_cons_zero, List.set_cons_succ] at h1
  have h2 := setCell_rowN h1 2 v2
  simp only [List.setIfInBounds_toArray, List.set_cons_zero, List.set_cons_succ] at h2
  unfold set3
  exact h2
theorem set3_below {B : Nat} {a X : World} {g : Nat} (hb : Below B a X) (hg : B ≤ g) (v0 v1 v2 : Value) : Below B a (set3 X g v0 v1 v2) := by
  unfold set3
  exact ((hb.setCell (p := ⟨g, 0, none⟩) hg v0).setCell (p := ⟨g, 1, none⟩) hg v1).setCell (p := ⟨g, 2, none⟩) hg v2
theorem set3_size (X : World) (g : Nat) (v0 v1 v2 : Value) : (set3 X g v0 v1 v2).heap.size = X.heap.size := by
  unfold set3
  simp [World.setCell]
theorem set3_off {X : World} {g : Nat} (v0 v1 v2 : Value) {k : Nat} (h : k ≠ g) : (set3 X g v0 v1 v2).heap[k]? = X.heap[k]? := by
  unfold set3
  simp only [World.setCell]
  rw [Array.getElem?_modify, if_neg (fun e => h e.symm), Array.getElem?_modify, if_neg (fun e => h e.symm), Array.getElem?_modify, if_neg (fun e => h e.symm)]
theorem strs_off {X X' : World} {B : Nat} {A : Option Addr} {l : List ByteArray} {g : Nat} {a0 a1 a2 : Value} {T : TypeId} (h : Strs X B A l) (hr : X.heap[g]? = some (.cells #[a0, a1, a2] T (0, 0))) (h0 : ∀ s, a0 ≠ .string s) (h1 : ∀ s, a1 ≠ .string s) (h2 : ∀ s, a2 ≠ .string s) (_v0 _v1 _v2 : Value) (hX : ∀ k, k ≠ g → X'.heap[k]? = X.heap[k]?) : Strs X' B A l :=
  ⟨fun hl => by
    obtain ⟨b, off, e, hlt, hc⟩ := h.at_ hl
    refine ⟨b, off, e, hlt, fun j s hj => ?_⟩
    have hne : b ≠ g := fun e => by
      subst e
      have h9 := hc j s hj
      rw [cell_of_row _ _ _ _ _ (0, 0) hr] at h9
      generalize off + j = q at h9
      match q with
      | 0 => exact h0 s (Option.some.inj h9)
      | 1 => exact h1 s (Option.some.inj h9)
      | 2 => exact h2 s (Option.some.inj h9)
      | q + 3 => simp at h9
    exact (World.cell?_of_block (a := ⟨b, off + j, none⟩) (hX b hne)).trans (hc j s hj)⟩
theorem below_drew3 {B : Nat} {a w : World} (h : Below B a w) : Below B a w.drew := ⟨h.os, h.tape, h.output, h.size, h.block⟩
theorem strs_drew3 {w : World} {B : Nat} {A : Option Addr} {l : List ByteArray} (h : Strs w B A l) : Strs w.drew B A l := ⟨fun hl => h.at_ hl⟩
def offB : ByteArray := ⟨#[111, 102, 102, 105, 99, 101]⟩
def othB : ByteArray := ⟨#[111, 116, 104, 101, 114]⟩
def secB (wr : Bool) : ByteArray := if wr then othB else offB
set_option maxRecDepth 100000 in
set_option maxHeartbeats 4000000 in
theorem signed_of (day count : Int) (root : ByteArray) (wr : Bool) (h0 : -9223372036854775808 ≤ day) (h1 : day ≤ 9223372036854775807) (k0 : -9223372036854775808 ≤ count) (k1 : count ≤ 9223372036854775807) (hr : root.size ≤ 1048576) (w : World) (he : Env w) (K : ByteArray) (hK : Dg.publicB offB 0 = K) (SG : List ByteArray) (hSG : Dg.sigB (secB wr) 0 (msgB day count root) = SG) :
    Calls Tryz.prog 21 #[.agg #[.int .i64 day, .int .i64 count, .string root, .bool wr]] w fun e w' => ∃ A c A' c', e = .returned (.tuple #[.string K, .agg #[.int .i64 0, .slice A 18 c, .slice A' 0 c']]) ∧ 18 ≤ c ∧ Strs w' w'.heap.size A SG ∧ Below w.heap.size w w' := by
  have HK := hide hK; have HSG := hide hSG; have HR := hide hr
  clear hK hSG hr
  have hx1 := Below.news (Below.refl w.heap.size w) (.cells #[.int .i64 day, .int .i64 count, .string root, .bool wr] 46)
  have hr1 := heap_alloc_new w (.cells #[.int .i64 day, .int .i64 count, .string root, .bool wr] 46)
  have he1 := he.next hx1
  go_enter Tryz.func21, Tryz.ntmps21
  have hx2 := Below.news (Below.refl (w.alloc (.cells #[.int .i64 day, .int .i64 count, .string root, .bool wr] 46)).heap.size (w.alloc (.cells #[.int .i64 day, .int .i64 count, .string root, .bool wr] 46))) (.cells #[.int .i64 0, .slice none 0 0, .slice none 0 0] 42)
  have hr2 := heap_alloc_new (w.alloc (.cells #[.int .i64 day, .int .i64 count, .string root, .bool wr] 46)) (.cells #[.int .i64 0, .slice none 0 0, .slice none 0 0] 42)
  have hr12 := iNext hr1 hx2
  have he2 := he1.next hx2
  have hb2 := bnext hx1 hx2
  rw [World.size_alloc] at hr2
  go_wp2_with fail
  refine (public_of offB 0 0 rfl (by decide) (by decide) K HK.out _ he2).mono ?_
  rintro e w3 ⟨rfl, hx3⟩
  have hb3 := bnext hb2 hx3
  have he3 := he2.next hx3
  have rr1 := iNext hr12 hx3
  have rr2 := iNext hr2 hx3
  clear hb2 he2 hr12 hr2 hr1 hx1 hx2 he1 hx3 he
  have q0 : w3.cell? ⟨w.heap.size, 0, none⟩ = some (.int .i64 day) := by rw [cell_of_row _ _ _ _ _ (0, 0) rr1]; rfl
  have q1 : w3.cell? ⟨w.heap.size, 1, none⟩ = some (.int .i64 count) := by rw [cell_of_row _ _ _ _ _ (0, 0) rr1]; rfl
  have q2 : w3.cell? ⟨w.heap.size, 2, none⟩ = some (.string root) := by rw [cell_of_row _ _ _ _ _ (0, 0) rr1]; rfl
  have q3 : w3.cell? ⟨w.heap.size, 3, none⟩ = some (.bool wr) := by rw [cell_of_row _ _ _ _ _ (0, 0) rr1]; rfl
  cases wr
  all_goals
    go_wp2_with fail
    refine (pmsg_of day count root h0 h1 k0 k1 HR.out _ rfl _ he3).mono ?_
    rintro e w4 ⟨rfl, hx4⟩
    have hb4 := bnext hb3 hx4
    have he4 := he3.next hx4
    have tt2 := iNext rr2 hx4
    clear hx4 q0 q1 q2 q3 rr1
    go_wp2_with fail
    refine (sign_of _ (msgB day count root) 0 0 0 0 rfl rfl (by decide) (by rw [msgB_size]; decide) (by decide) (by decide) SG [] HSG.out (List.eq_nil_of_length_eq_zero (Dg.sealPath_len _ _ _ (by decide))) _ he4).mono ?_
    rintro e w5 ⟨A, c, A', c', rfl, hc, hc', hS, hS', hx5⟩
    have hb5 := bnext hb4 hx5
    have tu2 := iNext tt2 hx5
    clear hx5 tt2 he4 hb4 hb3 he3 rr2
    have hx6 := Below.news (Below.refl w5.heap.size w5) (.cells #[.int .i64 0, .slice A 18 c, .slice A' 0 c'] 42)
    have hr6 := heap_alloc_new w5 (.cells #[.int .i64 0, .slice A 18 c, .slice A' 0 c'] 42)
    have tv2 := iNext tu2 hx6
    have hS6 := keepS hS hx6
    have hb6 := bnext hb5 hx6
    have hlt : w.heap.size + 1 < w5.heap.size := (Array.getElem?_eq_some_iff.1 tu2).1
    go_wp2_with fail
    clear tu2 hx6 hb5 hS hS'
    generalize w5.alloc (.cells #[.int .i64 0, .slice A 18 c, .slice A' 0 c'] 42) = w6 at *
    generalize w5.heap.size = b6 at *
    obtain ⟨z0, z1, z2⟩ := jCells3 hr6
    obtain ⟨y0, y1, y2⟩ := jCells3 tv2
    have f0 := frozen_of_row _ _ 0 _ _ tv2
    have f1 := frozen_of_row _ _ 1 _ _ tv2
    have f2 := frozen_of_row _ _ 2 _ _ tv2
    go_region
    go_wp2
    refine bodyPost_ret (results_tc Tryz.results21 _ _ (w.heap.size + 1) 42 #[.int .i64 0, .slice A 18 c, .slice A' 0 c'] (0, 0) _ rfl (set3_row tv2 (.int .i64 0) (.slice A 18 c) (.slice A' 0 c')) Tryz.underlying42 (by kernel_rfl)) rfl ⟨A, c, A', c', rfl, hc, ?_, below_drew3 (set3_below (g := w.heap.size + 1) hb6 (by omega) (.int .i64 0) (.slice A 18 c) (.slice A' 0 c'))⟩
    have h9 := strs_off (X' := set3 w6 (w.heap.size + 1) (.int .i64 0) (.slice A 18 c) (.slice A' 0 c')) hS6 tv2 (fun s => by simp) (fun s => by simp) (fun s => by simp) (.int .i64 0) (.slice A 18 c) (.slice A' 0 c') (fun k hk => set3_off _ _ _ hk)
    exact strs_drew3 (h9.more (Nat.le_of_eq (set3_size w6 (w.heap.size + 1) (.int .i64 0) (.slice A 18 c) (.slice A' 0 c')).symm))
end Go.Proofs.YtobhpeockinnjaaGreatDoor
/- few of the laws. No conditions but those that each theorem states. -/
namespace Go.Proofs.YtobhpeockinnjaaGreatDoor
open Go Go.RowKit Go.Sort Go.Maps
/-- A code as it lies: its items, where, and how many there is room for. -/
structure Cd where
  l : List Dg.It
  A : Option Addr
  c : Nat
/-- Codes in a row. -/
structure Cds (w : World) (b : Nat) (ds : List Cd) : Prop where
  lt : b < w.heap.size
  at_ : ∀ (j : Nat) d, ds[j]? = some d → w.cell? ⟨b, j, none⟩ = some (.slice d.A d.l.length d.c) ∧ Its w w.heap.size d.A d.l ∧ d.l.length ≤ 9223372036854775807
theorem Cds.keep {w w' : World} {b : Nat} {ds : List Cd} (h : Cds w b ds) (hb : Below w.heap.size w w') : Cds w' b ds :=
  ⟨Nat.lt_of_lt_of_le h.lt hb.size, fun j d hj => by
    obtain ⟨h1, h2, h3⟩ := h.at_ j d hj
    exact ⟨(hb.cell (p := ⟨b, j, none⟩) h.lt).trans h1, h2.keep hb, h3⟩⟩
end Go.Proofs.YtobhpeockinnjaaGreatDoor
/- The example of pandectlaw44. No conditions but those that each theorem states. -/
namespace Go.Proofs.YtobhpeockinnjaaGreatDoor
open Go Go.RowKit Go.Sort Go.Maps
def exL : List Dg.It := [⟨2, ⟨#[97]⟩, ⟨#[]⟩, ⟨#[49]⟩, ⟨#[110]⟩, ⟨#[115]⟩, false⟩, ⟨2, ⟨#[98]⟩, ⟨#[]⟩, ⟨#[]⟩, ⟨#[]⟩, ⟨#[]⟩, true⟩, ⟨2, ⟨#[99]⟩, ⟨#[]⟩, ⟨#[]⟩, ⟨#[]⟩, ⟨#[]⟩, false⟩]
theorem exL_w : ∀ x ∈ exL, ItW x := by
  have h : ∀ x ∈ exL, (0 ≤ x.kind ∧ x.kind ≤ 2) ∧ x.id.size ≤ 2 ∧ x.parent.size ≤ 2 ∧ x.number.size ≤ 2 ∧ x.north.size ≤ 2 ∧ x.south.size ≤ 2 := by decide +kernel
  intro x hx
  obtain ⟨⟨h0, h1⟩, h2, h3, h4, h5, h6⟩ := h x hx
  exact ⟨by omega, by omega, by omega, by omega, by omega, by omega, by omega⟩
theorem exL_fields : ∀ x ∈ exL, ∀ s ∈ Dg.fieldsI x, s.size ≤ 100 := by decide +kernel
set_option maxRecDepth 100000 in
set_option maxHeartbeats 8000000 in
theorem example_of (w : World) :
    Calls Tryz.prog 40 #[] w fun e w' => ∃ b, e = .returned (.agg #[.slice (some ⟨b, 0, none⟩) 3 3]) ∧ Its w' w'.heap.size (some ⟨b, 0, none⟩) exL ∧ Below w.heap.size w w' := by
  go_enter Tryz.func40, Tryz.ntmps40
  go_wp2
  have hs1 : (w.alloc (.cells #[.slice (some ⟨w.heap.size + 1, 0, none⟩) 3 3] 24)).heap.size = w.heap.size + 1 := by simp
  have hx1 := Below.news (Below.refl w.heap.size w) (.cells #[.slice (some ⟨w.heap.size + 1, 0, none⟩) 3 3] 24)
  have hr1 := heap_alloc_new w (.cells #[.slice (some ⟨w.heap.size + 1, 0, none⟩) 3 3] 24)
  generalize w.alloc (.cells #[.slice (some ⟨w.heap.size + 1, 0, none⟩) 3 3] 24) = W1 at *
  have hO := OwnI.lit W1 W1.heap.size (Nat.le_refl _) exL 3 rfl (by decide) #[.int .i64 2, .string ⟨#[97]⟩, .string ⟨#[]⟩, .string ⟨#[49]⟩, .string ⟨#[110]⟩, .string ⟨#[115]⟩, .bool false, .int .i64 2, .string ⟨#[98]⟩, .string ⟨#[]⟩, .string ⟨#[]⟩, .string ⟨#[]⟩, .string ⟨#[]⟩, .bool true, .int .i64 2, .string ⟨#[99]⟩, .string ⟨#[]⟩, .string ⟨#[]⟩, .string ⟨#[]⟩, .string ⟨#[]⟩, .bool false] rfl
  have hx2 := Below.news (Below.refl W1.heap.size W1) (.cells #[.int .i64 2, .string ⟨#[97]⟩, .string ⟨#[]⟩, .string ⟨#[49]⟩, .string ⟨#[110]⟩, .string ⟨#[115]⟩, .bool false, .int .i64 2, .string ⟨#[98]⟩, .string ⟨#[]⟩, .string ⟨#[]⟩, .string ⟨#[]⟩, .string ⟨#[]⟩, .bool true, .int .i64 2, .string ⟨#[99]⟩, .string ⟨#[]⟩, .string ⟨#[]⟩, .string ⟨#[]⟩, .string ⟨#[]⟩, .bool false] 26)
  have hrw := iNext hr1 hx2
  have hb := bnext hx1 hx2
  obtain ⟨A, c, e, _, hI⟩ := hO.its
  rw [hs1] at e
  cases e
  generalize W1.alloc (.cells #[.int .i64 2, .string ⟨#[97]⟩, .string ⟨#[]⟩, .string ⟨#[49]⟩, .string ⟨#[110]⟩, .string ⟨#[115]⟩, .bool false, .int .i64 2, .string ⟨#[98]⟩, .string ⟨#[]⟩, .string ⟨#[]⟩, .string ⟨#[]⟩, .string ⟨#[]⟩, .bool true, .int .i64 2, .string ⟨#[99]⟩, .string ⟨#[]⟩, .string ⟨#[]⟩, .string ⟨#[]⟩, .string ⟨#[]⟩, .bool false] 26) = W2 at *
  clear hO hx2 hx1 hr1
  refine bodyPost_ret (results_cell_row (P := Tryz.prog) Tryz.results40 _ _ w.heap.size 24 #[.slice (some ⟨w.heap.size + 1, 0, none⟩) 3 3] (0, 0) _ rfl hrw Tryz.underlying24 rfl (by kernel_rfl)) rfl ⟨_, rfl, hI, hb⟩
end Go.Proofs.YtobhpeockinnjaaGreatDoor
/- Concrete facts for head of pandectlaw44. No conditions but those that each theorem states. -/
namespace Go.Proofs.YtobhpeockinnjaaGreatDoor
open Go Go.RowKit Go.Sort Go.Maps
def exR : ByteArray := Dg.root (Dg.leavesC exL)
def exO : ByteArray := Dg.emptyB
theorem ex_len : (Dg.leavesC exL).length = 2 := by decide +kernel
def exA : Dg.It := ⟨2, ⟨#[97]⟩, ⟨#[]⟩, ⟨#[]⟩, ⟨#[110]⟩, ⟨#[115]⟩, false⟩
theorem ex_a0 : (makeE exL ⟨#[97]⟩).2 = 0 ∧ (makeE exL ⟨#[97]⟩).1.count = 2 ∧ (makeE exL ⟨#[97]⟩).1.idx = 0 ∧ (makeE exL ⟨#[97]⟩).1.it.kind = 2 ∧ (makeE exL ⟨#[97]⟩).1.it.id = ⟨#[97]⟩ ∧ (makeE exL ⟨#[97]⟩).1.it.parent = ⟨#[]⟩ ∧ (makeE exL ⟨#[97]⟩).1.it.number = ⟨#[]⟩ ∧ (makeE exL ⟨#[97]⟩).1.it.north = ⟨#[110]⟩ ∧ (makeE exL ⟨#[97]⟩).1.it.south = ⟨#[115]⟩ ∧ (makeE exL ⟨#[97]⟩).1.it.gone = false ∧ (makeE exL ⟨#[97]⟩).1.path.length = 1 := by decide +kernel
theorem ex_a : ∃ q : ByteArray, makeE exL ⟨#[97]⟩ = (⟨2, 0, exA, [q]⟩, 0) := by
  obtain ⟨h0, h1, h2, h3, h4, h5, h6, h7, h8, h9, h10⟩ := ex_a0
  generalize makeE exL ⟨#[97]⟩ = X at *
  obtain ⟨⟨c, i, ⟨a1, a2, a3, a4, a5, a6, a7⟩, P⟩, e⟩ := X
  simp only at *
  subst h0 h1 h2 h3 h4 h5 h6 h7 h8 h9
  match P, h10 with
  | [q], _ => exact ⟨q, rfl⟩
theorem ex_b : (makeE exL ⟨#[98]⟩).2 = 16 := by decide +kernel
theorem ex_x : (makeE exL ⟨#[120]⟩).2 = 11 := by decide +kernel
theorem ex_chk : checkP exR (makeE exL ⟨#[97]⟩).1 = true := by decide +kernel
theorem ex_isR : Dg.isB exR = true := by decide +kernel
theorem ex_isO : Dg.isB exO = true := by decide +kernel
theorem ex_ne : exR ≠ exO := by decide +kernel
theorem ex_rsz : exR.size ≤ 1000 := by decide +kernel
theorem ex_osz : exO.size ≤ 1000 := by decide +kernel
end Go.Proofs.YtobhpeockinnjaaGreatDoor
/- Two seals that do not hold, for head of pandectlaw44. No conditions but those that each theorem states. -/
namespace Go.Proofs.YtobhpeockinnjaaGreatDoor
open Go Go.RowKit Go.Sort Go.Maps
set_option maxRecDepth 1000000 in
theorem ex_v6 : verifyB (Dg.publicB offB 0) (msgB 6 2 exR) 0 (Dg.sigB offB 0 (msgB 5 2 exR)) [] = false := by decide +kernel
set_option maxRecDepth 1000000 in
theorem ex_v7 : verifyB (Dg.publicB offB 0) (msgB 7 2 exR) 0 (Dg.sigB othB 0 (msgB 7 2 exR)) [] = false := by decide +kernel
end Go.Proofs.YtobhpeockinnjaaGreatDoor
/- Ints of the reference; signed and example of pandectlaw44. No conditions but those that each theorem states. -/
namespace Go.Proofs.YtobhpeockinnjaaGreatDoor
open Go Go.RowKit Go.Sort Go.Maps
attribute [local go_sem] Oper.semAt_some
theorem Zs.get {w : World} {B : Nat} {A : Option Addr} {l : List Int} (h : Zs w B A l) {k : Nat} (hk : k < l.length) : ∃ b off, A = some ⟨b, off, none⟩ ∧ b < B ∧ w.cell? ⟨b, off + k, none⟩ = some (.int .i64 l[k]) := by
  obtain ⟨b, off, e, hb, hc⟩ := h.at_ (by omega)
  exact ⟨b, off, e, hb, hc k _ (List.getElem?_eq_getElem hk)⟩
theorem Zs.below {w w' : World} {B : Nat} {A : Option Addr} {l : List Int} (h : Zs w B A l) (hb : Below B w w') : Zs w' B A l :=
  ⟨fun hl => by
    obtain ⟨b, off, e, hlt, hc⟩ := h.at_ hl
    exact ⟨b, off, e, hlt, fun j s hj => (hb.cell (p := ⟨b, off + j, none⟩) hlt).trans (hc j s hj)⟩⟩
theorem ints_any (A A' : Option Addr) (c c' : Nat) (l m : List Int) (w : World) (hl : l.length ≤ 9223372036854775807) (_hl' : m.length ≤ 9223372036854775807) (hr : Zs w w.heap.size A l) (hr' : Zs w w.heap.size A' m) :
    Calls Tryz.prog 28 #[.slice A l.length c, .slice A' m.length c'] w fun e w' => e = .returned (.bool (decide (l = m))) ∧ Below w.heap.size w w' := by
  by_cases hlen : l.length = m.length
  · have hne : ((l.length : Int) != (m.length : Int)) = false := by rw [bne_eq_false_iff_eq]; omega
    go_enter Tryz.func28, Tryz.ntmps28
    go_wp2
    go_loopw [5] (fun i wr => ∃ k : Nat, k ≤ l.length ∧ i = .int .i64 k ∧ Below w.heap.size w wr ∧ Hid (l.take k = m.take k)) (fun i _ => l.length - (intOf i).toNat)
    case atStart => exact ⟨0, by omega, rfl, Below.refl _ _, rfl⟩
    case round =>
      obtain ⟨k, hk, rfl, hb, hall⟩ := hrel
      by_cases hlt : k < l.length
      · have hlt' : k < m.length := by omega
        obtain ⟨b, off, rfl, hbl, hcell⟩ := (hr.below hb).get hlt
        obtain ⟨b', off', rfl, hbl', hcell'⟩ := (hr'.below hb).get hlt'
        have hts := hide (List.take_succ_eq_append_getElem hlt)
        have hts' := hide (List.take_succ_eq_append_getElem hlt')
        have hg := hide (List.getElem?_eq_getElem hlt)
        have hg' := hide (List.getElem?_eq_getElem hlt')
        generalize l[k] = x at *
        generalize m[k] = y at *
        by_cases hxy : x = y
        · have ht : (x != y) = false := by simpa using hxy
          have HXY := hide hxy; clear hxy
          go_wp2
          go_quiet (fail)
          go_wp2
          go_roundw
          case rel => exact ⟨k + 1, by omega, by go_num, below_drewN hb _, by unfold Hid; rw [hts.out, hts'.out, hall.out, HXY.out]⟩
          case measure => simp [intOf]; omega
        · have ht : (x != y) = true := by simpa using hxy
          have HXY := hide hxy; clear hxy
          go_wp2
          go_quiet (fail)
          go_wp2
          go_ret
          refine ⟨ret_bool (decide_eq_false ?_).symm, below_drewN hb _⟩
          intro h
          have h1 := hg.out
          rw [h, hg'.out] at h1
          exact HXY.out (Option.some.inj h1).symm
      · obtain rfl : k = l.length := by omega
        have h1 := hall.out
        rw [List.take_length, List.take_of_length_le (by omega)] at h1
        go_wp2
        go_ret
        exact ⟨ret_bool (decide_eq_true h1).symm, hb⟩
  · have hne : ((l.length : Int) != (m.length : Int)) = true := by rw [bne_iff_ne]; omega
    go_enter Tryz.func28, Tryz.ntmps28
    go_wp2
    go_ret
    exact ⟨ret_bool (decide_eq_false (fun h => hlen (by rw [h]))).symm, Below.refl _ _⟩
end Go.Proofs.YtobhpeockinnjaaGreatDoor
/- Same of the reference for codes. No conditions but those that each theorem states. -/
namespace Go.Proofs.YtobhpeockinnjaaGreatDoor
open Go Go.RowKit Go.Sort Go.Maps
theorem bytes_beq (a b : ByteArray) : (a.toList == b.toList) = true ↔ a = b := by
  rw [beq_iff_eq]
  constructor
  · intro h
    rw [ByteArray.toList_eq, ByteArray.toList_eq] at h
    obtain ⟨⟨x⟩⟩ := a
    obtain ⟨⟨y⟩⟩ := b
    simpa using h
  · rintro rfl; rfl
theorem it_ext {x y : Dg.It} (h1 : x.kind = y.kind) (h2 : x.id = y.id) (h3 : x.parent = y.parent) (h4 : x.number = y.number) (h5 : x.north = y.north) (h6 : x.south = y.south) (h7 : x.gone = y.gone) : x = y := by
  cases x; cases y; simp_all
def sameI (x y : Dg.It) : Bool := (x.kind == y.kind) && ((x.id.toList == y.id.toList) && ((x.parent.toList == y.parent.toList) && ((x.number.toList == y.number.toList) && ((x.north.toList == y.north.toList) && ((x.south.toList == y.south.toList) && (x.gone == y.gone))))))
theorem sameI_iff (x y : Dg.It) : sameI x y = true ↔ x = y := by
  unfold sameI
  rw [Bool.and_eq_true, Bool.and_eq_true, Bool.and_eq_true, Bool.and_eq_true, Bool.and_eq_true, Bool.and_eq_true, bytes_beq, bytes_beq, bytes_beq, bytes_beq, bytes_beq, beq_iff_eq, beq_iff_eq]
  constructor
  · rintro ⟨h1, h2, h3, h4, h5, h6, h7⟩
    exact it_ext h1 h2 h3 h4 h5 h6 h7
  · rintro rfl
    exact ⟨rfl, rfl, rfl, rfl, rfl, rfl, rfl⟩
end Go.Proofs.YtobhpeockinnjaaGreatDoor
/- head of pandectlaw44. No conditions but those that each theorem states. -/
namespace Go.Proofs.YtobhpeockinnjaaGreatDoor
open Go Go.RowKit Go.Sort Go.Maps
attribute [local go_sem] Oper.semAt_some
theorem map_row {w : World} {H : Type} {R : Value → Option (DataW H × List MemPlace)} {k : TypeId} {b n : Nat} {D : DataW H} (h : w.ownsMap Tryz.prog k R b n D) : ∀ (off : Nat), w.cell? ⟨b, off, none⟩ = none := by
  intro off
  obtain ⟨es, z, h1, _⟩ := h
  simp [World.cell?, h1]
theorem strs_offm {X X' : World} {B mb : Nat} {A : Option Addr} {l : List ByteArray} (h : Strs X B A l) (hm : ∀ off, X.cell? ⟨mb, off, none⟩ = none) (hB : B ≤ X.heap.size) (ho : Off [mb] X X') : Strs X' X'.heap.size A l :=
  ⟨fun hl => by
    obtain ⟨b, off, e, hlt, hc⟩ := h.at_ hl
    refine ⟨b, off, e, Nat.lt_of_lt_of_le hlt (Nat.le_trans hB ho.size), fun j s hj => ?_⟩
    have hne : b ≠ mb := fun e => by
      have h9 := hc j s hj
      rw [e, hm] at h9; cases h9
    exact (World.cell?_of_block (a := ⟨b, off + j, none⟩) (ho.block b (Nat.lt_of_lt_of_le hlt hB) (by simpa using hne))).trans (hc j s hj)⟩
/-- A seal in memory. -/
structure SR (b : Nat) (A : Option Addr) (c : Nat) (A' : Option Addr) (c' : Nat) (sg : List ByteArray) (X : World) : Prop where
  row : X.heap[b]? = some (.cells #[.int .i64 0, .slice A 18 c, .slice A' 0 c'] 42 (0, 0))
  strs : Strs X X.heap.size A sg
theorem SR.next {b : Nat} {A : Option Addr} {c : Nat} {A' : Option Addr} {c' : Nat} {sg : List ByteArray} {X X' : World} (h : SR b A c A' c' sg X) (hb : Below X.heap.size X X') : SR b A c A' c' sg X' := ⟨iNext h.row hb, keepS h.strs hb⟩
theorem SR.learn {b mb : Nat} {A : Option Addr} {c : Nat} {A' : Option Addr} {c' : Nat} {sg : List ByteArray} {X X' : World} (h : SR b A c A' c' sg X) (hm : ∀ off, X.cell? ⟨mb, off, none⟩ = none) (ho : Off [mb] X X') (hne : b ≠ mb) : SR b A c A' c' sg X' := ⟨ho.row h.row (by simpa using hne), strs_offm h.strs hm (Nat.le_refl _) ho⟩
theorem SR.new {A : Option Addr} {c : Nat} {A' : Option Addr} {c' : Nat} {sg : List ByteArray} {X : World} (h : Strs X X.heap.size A sg) : SR X.heap.size A c A' c' sg (X.alloc (.cells #[.int .i64 0, .slice A 18 c, .slice A' 0 c'] 42)) := ⟨heap_alloc_new X _, keepS h (Below.news (Below.refl _ _) _)⟩
/-- A proof of the example in memory. -/
structure PR (b : Nat) (A : Option Addr) (c : Nat) (q : ByteArray) (X : World) : Prop where
  row : X.heap[b]? = some (.cells #[.int .i64 2, .int .i64 0, .int .i64 2, .string ⟨#[97]⟩, .string ⟨#[]⟩, .string ⟨#[]⟩, .string ⟨#[110]⟩, .string ⟨#[115]⟩, .bool false, .slice A 1 c] 29 (0, 0))
  strs : Strs X X.heap.size A [q]
theorem PR.next {b : Nat} {A : Option Addr} {c : Nat} {q : ByteArray} {X X' : World} (h : PR b A c q X) (hb : Below X.heap.size X X') : PR b A c q X' := ⟨iNext h.row hb, keepS h.strs hb⟩
theorem PR.learn {b mb : Nat} {A : Option Addr} {c : Nat} {q : ByteArray} {X X' : World} (h : PR b A c q X) (hm : ∀ off, X.cell? ⟨mb, off, none⟩ = none) (ho : Off [mb] X X') (hne : b ≠ mb) : PR b A c q X' := ⟨ho.row h.row (by simpa using hne), strs_offm h.strs hm (Nat.le_refl _) ho⟩
theorem PR.new {A : Option Addr} {c : Nat} {q : ByteArray} {X : World} (h : Strs X X.heap.size A [q]) : PR X.heap.size A c q (X.alloc (.cells #[.int .i64 2, .int .i64 0, .int .i64 2, .string ⟨#[97]⟩, .string ⟨#[]⟩, .string ⟨#[]⟩, .string ⟨#[110]⟩, .string ⟨#[115]⟩, .bool false, .slice A 1 c] 29)) := ⟨heap_alloc_new X _, keepS h (Below.news (Below.refl _ _) _)⟩
/-- The example's code in memory. -/
structure KR (b d : Nat) (X : World) : Prop where
  row : X.heap[b]? = some (.cells #[.slice (some ⟨d, 0, none⟩) 3 3] 24 (0, 0))
  its : Its X X.heap.size (some ⟨d, 0, none⟩) exL
theorem KR.next {b d : Nat} {X X' : World} (h : KR b d X) (hb : Below X.heap.size X X') : KR b d X' := ⟨iNext h.row hb, (h.its.below hb).more hb.size⟩
theorem KR.new {d : Nat} {X : World} (h : Its X X.heap.size (some ⟨d, 0, none⟩) exL) : KR X.heap.size d (X.alloc (.cells #[.slice (some ⟨d, 0, none⟩) 3 3] 24)) := ⟨heap_alloc_new X _, (h.below (Below.news (Below.refl _ _) _)).more (by simp)⟩
theorem KR.cell {b d : Nat} {X : World} (h : KR b d X) : X.cell? ⟨b, 0, none⟩ = some (.slice (some ⟨d, 0, none⟩) 3 3) := by rw [cell_of_row _ _ _ _ _ (0, 0) h.row]; rfl
end Go.Proofs.YtobhpeockinnjaaGreatDoor
/- Plain facts for head of pandectlaw44. No conditions but those that each theorem states. -/
namespace Go.Proofs.YtobhpeockinnjaaGreatDoor
open Go Go.RowKit Go.Sort Go.Maps
abbrev exD1 : List Dy := [(5, 2, exR)]
abbrev exD2 : List Dy := [(5, 2, exR), (5, 2, exR)]
theorem not_bad {d c : Int} {r : ByteArray} (h0 : 0 ≤ d) (h1 : d ≤ 1000000) (h2 : 0 ≤ c) (h3 : c ≤ 2000) (h4 : Dg.isB r = true) : ¬ learnBad d c r := fun h => by
  rcases h with h | h | h | h | h
  · omega
  · omega
  · omega
  · omega
  · rw [h4] at h; cases h
theorem ex_l1 : learnE [] true 5 2 exR = (0, exD1) := learnE_new (not_bad (by decide) (by decide) (by decide) (by decide) ex_isR) rfl
theorem ex_l2 : learnE exD1 true 5 2 exR = (0, exD2) := learnE_same (not_bad (by decide) (by decide) (by decide) (by decide) ex_isR) (by simp [foundD])
theorem ex_l3 : learnE exD2 true 5 2 exO = (23, exD2) := learnE_fork (c0 := 2) (r0 := exR) (not_bad (by decide) (by decide) (by decide) (by decide) ex_isO) (by simp [foundD]) (fun h => ex_ne h.2)
theorem ex_l4 : learnE exD2 false 6 2 exR = (19, exD2) := learnE_key (not_bad (by decide) (by decide) (by decide) (by decide) ex_isR)
theorem ex_l5 : learnE exD2 false 7 2 exR = (19, exD2) := learnE_key (not_bad (by decide) (by decide) (by decide) (by decide) ex_isR)
theorem ex_w1 {p : Pf} (hc : p.count = 2) (h : checkP exR p = true) : wasE exD2 5 p = 0 := by
  unfold wasE
  simp [foundD, hc, h]
theorem ex_w2 (p : Pf) : wasE exD2 6 p = 11 := by
  unfold wasE
  simp [foundD]
theorem ex_w3 : wasE exD2 5 noPf = 21 := by
  unfold wasE
  simp [foundD, noPf]
theorem ex_days : daysS exD2 = [5] := by
  have h : intKeys (daysD exD2) = [5] := by
    rfl
  unfold daysS
  rw [h, List.mergeSort_singleton]
theorem ex_v1 (m : ByteArray) : verifyB (Dg.publicB offB 0) m 0 (Dg.sigB offB 0 m) [] = true := by
  have h := verifyB_self offB m 0 0 (by decide) (by decide)
  rw [List.eq_nil_of_length_eq_zero (Dg.sealPath_len offB 0 0 (by decide))] at h
  exact h
theorem sigB_small (s : ByteArray) (i : Nat) (m : ByteArray) (x : ByteArray) (hx : x ∈ Dg.sigB s i m) : x.size ≤ 1048576 := by rw [isB_16 (Dg.sigB_isB s i m) x hx]; decide
end Go.Proofs.YtobhpeockinnjaaGreatDoor
/- head of pandectlaw44. No conditions but those that each theorem states. -/
namespace Go.Proofs.YtobhpeockinnjaaGreatDoor
open Go Go.RowKit Go.Sort Go.Maps
attribute [local go_sem] Oper.semAt_some
theorem exA_leaf : ∀ s ∈ leafS exA, s.size ≤ 10000 := by decide +kernel
theorem Zs.new1 (w : World) (x : Int) : Zs (w.alloc (.cells #[.int .i64 x] 3)) (w.alloc (.cells #[.int .i64 x] 3)).heap.size (some ⟨w.heap.size, 0, none⟩) [x] :=
  ⟨fun _ => ⟨w.heap.size, 0, rfl, by simp, fun j s hj => by
    rw [cell_of_row _ _ _ _ _ (0, 0) (heap_alloc_new w _), Nat.zero_add]
    match j, hj with
    | 0, hj => cases hj; rfl⟩⟩
set_option maxRecDepth 100000 in
theorem item_eql (w : World) (x y : Dg.It) : (binOp .eql 26 (.agg #[.int .i64 x.kind, .string x.id, .string x.parent, .string x.number, .string x.north, .string x.south, .bool x.gone]) (.agg #[.int .i64 y.kind, .string y.id, .string y.parent, .string y.number, .string y.north, .string y.south, .bool y.gone])).run Tryz.prog w = .ok (.bool (sameI x y)) w := by
  have hS : Tryz.prog.underlying 26 = some (.struct (Tryz.prog.fieldsOf 26)) := by kernel_rfl
  have hp : Tryz.prog.stoodInHeld 26 = false := by kernel_rfl
  rw [run_eql_struct, show (10000 : Nat) = 9999 + 1 from rfl, run_equalIn_agg w 9999 26 _ _ hS hp]
  simp only [Program.fieldsOf, Tryz.underlying26]
  have u3 := Tryz.underlying3
  have u4 := Tryz.underlying4
  have u5 := Tryz.underlying9
  have a3 := Tryz.isAgg3
  have a4 := Tryz.isAgg4
  have a5 := Tryz.isAgg9
  have z3 := Tryz.sizeOf3
  have z4 := Tryz.sizeOf4
  have z5 := Tryz.sizeOf9
  go_simp
  unfold sameI
  by_cases h1 : x.kind = y.kind <;> by_cases h2 : x.id.toList = y.id.toList <;> by_cases h3 : x.parent.toList = y.parent.toList <;> by_cases h4 : x.number.toList = y.number.toList <;> by_cases h5 : x.north.toList = y.north.toList <;> by_cases h6 : x.south.toList = y.south.toList <;> by_cases h7 : x.gone = y.gone <;> simp [h1, h2, h3, h4, h5, h6, h7]
set_option maxRecDepth 100000 in
set_option maxHeartbeats 16000000 in
theorem head44_of (w : World) (he : Env w) :
    Calls Tryz.prog 10 #[] w fun e w' => e = .returned (.bool true) ∧ Below w.heap.size w w' := by
  obtain ⟨q, hq⟩ := ex_a
  obtain ⟨qb, hqb⟩ : ∃ p, makeE exL ⟨#[98]⟩ = (p, 16) := ⟨_, Prod.ext rfl ex_b⟩
  obtain ⟨qx, hqx⟩ : ∃ p, makeE exL ⟨#[120]⟩ = (p, 11) := ⟨_, Prod.ext rfl ex_x⟩
  have HCK := hide (show checkP exR ⟨2, 0, exA, [q]⟩ = true by have := ex_chk; rw [hq] at this; exact this)
  have HQZ := hide (show q.size ≤ 1048576 by
    have h9 : ∀ s ∈ (makeE exL ⟨#[97]⟩).1.path, s.size ≤ 1000 := by decide +kernel
    rw [hq] at h9
    exact Nat.le_trans (h9 q (List.mem_singleton.2 rfl)) (by decide))
  have HDL1 := hide (show exD1.length ≤ 1048576 by decide)
  have HDL2 := hide (show exD2.length ≤ 1048576 by decide)
  have HQ := hide hq; have HQB := hide hqb; have HQX := hide hqx
  clear hq hqb hqx
  obtain ⟨L, hL⟩ : ∃ L, Dg.leavesC exL = L := ⟨_, rfl⟩
  have HLL := hide (show L.length = 2 by rw [← hL]; exact ex_len)
  have HLR := hide (show Dg.root L = exR by rw [← hL]; rfl)
  have HLZ := hide (show ∀ s ∈ L, s.size ≤ 1048576 by
    rw [← hL]
    have h9 : ∀ s ∈ Dg.leavesC exL, s.size ≤ 1000 := by decide +kernel
    exact fun s hs => Nat.le_trans (h9 s hs) (by decide))
  have HL := hide hL
  clear hL
  obtain ⟨K, hK⟩ : ∃ K, Dg.publicB offB 0 = K := ⟨_, rfl⟩
  obtain ⟨S1, hS1⟩ : ∃ S, Dg.sigB offB 0 (msgB 5 2 exR) = S := ⟨_, rfl⟩
  obtain ⟨S2, hS2⟩ : ∃ S, Dg.sigB offB 0 (msgB 5 2 exO) = S := ⟨_, rfl⟩
  obtain ⟨S3, hS3⟩ : ∃ S, Dg.sigB othB 0 (msgB 7 2 exR) = S := ⟨_, rfl⟩
  have V1 := hide (show verifyB K (msgB 5 2 exR) 0 S1 [] = true by rw [← hK, ← hS1]; exact ex_v1 _)
  have V2 := hide (show verifyB K (msgB 5 2 exO) 0 S2 [] = true by rw [← hK, ← hS2]; exact ex_v1 _)
  have V3 := hide (show verifyB K (msgB 6 2 exR) 0 S1 [] = false by rw [← hK, ← hS1]; exact ex_v6)
  have V4 := hide (show verifyB K (msgB 7 2 exR) 0 S3 [] = false by rw [← hK, ← hS3]; exact ex_v7)
  have N1 := hide (show S1.length = 18 by rw [← hS1]; exact Dg.sigB_len _ _ _)
  have N2 := hide (show S2.length = 18 by rw [← hS2]; exact Dg.sigB_len _ _ _)
  have N3 := hide (show S3.length = 18 by rw [← hS3]; exact Dg.sigB_len _ _ _)
  have Z1 := hide (show ∀ s ∈ S1, s.size ≤ 1048576 by rw [← hS1]; exact sigB_small _ _ _)
  have Z2 := hide (show ∀ s ∈ S2, s.size ≤ 1048576 by rw [← hS2]; exact sigB_small _ _ _)
  have Z3 := hide (show ∀ s ∈ S3, s.size ≤ 1048576 by rw [← hS3]; exact sigB_small _ _ _)
  have HK := hide hK; have H1 := hide hS1; have H2 := hide hS2; have H3 := hide hS3
  clear hK hS1 hS2 hS3
  have HRZ := hide (show exR.size ≤ 1048576 from Nat.le_trans ex_rsz (by decide))
  have HOZ := hide (show exO.size ≤ 1048576 from Nat.le_trans ex_osz (by decide))
  have HEL := hide (show Dg.emptyB = exO from rfl)
  have HLN1 := hide ex_l1; have HLN2 := hide ex_l2; have HLN3 := hide ex_l3; have HLN4 := hide ex_l4; have HLN5 := hide ex_l5
  have HW1 := hide (ex_w1 (p := ⟨2, 0, exA, [q]⟩) rfl HCK.out)
  have HW2 := hide (ex_w2 ⟨2, 0, exA, [q]⟩)
  have HW3 := hide ex_w3
  have HDD := hide ex_days
  have HFX := hide (fun x hx s hs => Nat.le_trans (exL_fields x hx s hs) (show 100 ≤ 10000 by decide))
  generalize exR = R at *
  generalize exO = O at *
  generalize exD1 = D1 at *
  generalize exD2 = D2 at *
  go_enter Tryz.func10, Tryz.ntmps10
  go_wp2_with fail
  refine (example_of _).mono ?_
  rintro e w1 ⟨d, rfl, hI, hx1⟩
  have hC := KR.new hI
  have hx2 := Below.news (Below.refl w1.heap.size w1) (.cells #[.slice (some ⟨d, 0, none⟩) 3 3] 24)
  have hb := bnext hx1 hx2
  clear hx1 hx2 hI
  have hc := hC.cell
  go_wp2_with fail
  generalize w1.alloc (.cells #[.slice (some ⟨d, 0, none⟩) 3 3] 24) = w2 at *
  generalize w1.heap.size = b1 at *
  refine (Code.leaves_of exL (some ⟨d, 0, none⟩) 3 3 rfl exL_w (by decide) w2 (he.next hb) hC.its (few_up2 HFX.out (by decide)) L HL.out).mono ?_
  rintro e w3 ⟨⟨A3, c3, rfl, hc3, hS3⟩, hx3⟩
  replace hb := bnext hb hx3
  replace hC := hC.next hx3
  clear hx3 hc
  rw [HLL.out] at hc3
  simp only [HLL.out]
  go_wp2_with fail
  refine (root_of 2 A3 c3 L R w3 HLL.out HLR.out (he.next hb) hc3 (by decide) (fun s hs => Nat.le_trans (HLZ.out s hs) (by decide)) hS3).mono ?_
  rintro e w4 ⟨rfl, hx4⟩
  replace hb := bnext hb hx4
  replace hC := hC.next hx4
  clear hx4 hS3 hc3
  have hc := hC.cell
  go_wp2_with fail
  refine (pmake_of exL (some ⟨d, 0, none⟩) 3 3 rfl exL_w (by decide) (by decide) HFX.out ⟨#[97]⟩ w4 (he.next hb) hC.its _ _ HQ.out).mono ?_
  rintro e w5 ⟨A5, c5, rfl, hc5, hS5, hx5⟩
  replace hb := bnext hb hx5
  replace hC := hC.next hx5
  clear hx5 hc
  have hP := PR.new (c := c5) hS5
  have hx6 := Below.news (Below.refl w5.heap.size w5) (.cells #[.int .i64 2, .int .i64 0, .int .i64 2, .string ⟨#[97]⟩, .string ⟨#[]⟩, .string ⟨#[]⟩, .string ⟨#[110]⟩, .string ⟨#[115]⟩, .bool false, .slice A5 1 c5] 29)
  replace hC := hC.next hx6
  have hb6 := bnext hb hx6
  have hc := hC.cell
  clear hx6 hb hS5
  simp only [exA, List.length_cons, List.length_nil, Nat.zero_add] at hc5 ⊢
  go_wp2_with fail
  generalize w5.alloc (.cells #[.int .i64 2, .int .i64 0, .int .i64 2, .string ⟨#[97]⟩, .string ⟨#[]⟩, .string ⟨#[]⟩, .string ⟨#[110]⟩, .string ⟨#[115]⟩, .bool false, .slice A5 1 c5] 29) = w6 at *
  generalize w5.heap.size = p3 at *
  refine (pmake_of exL (some ⟨d, 0, none⟩) 3 3 rfl exL_w (by decide) (by decide) HFX.out ⟨#[98]⟩ w6 (he.next hb6) hC.its _ _ HQB.out).mono ?_
  rintro e w7 ⟨A7, c7, rfl, _, _, hx7⟩
  have hb7 := bnext hb6 hx7
  replace hC := hC.next hx7
  replace hP := hP.next hx7
  clear hx7 hc hb6
  have hx8 := Below.news (Below.refl w7.heap.size w7) (.cells #[.int .i64 qb.count, .int .i64 qb.idx, .int .i64 qb.it.kind, .string qb.it.id, .string qb.it.parent, .string qb.it.number, .string qb.it.north, .string qb.it.south, .bool qb.it.gone, .slice A7 qb.path.length c7] 29)
  have hb8 := bnext hb7 hx8
  replace hC := hC.next hx8
  replace hP := hP.next hx8
  have hc := hC.cell
  clear hx8 hb7
  go_wp2_with fail
  generalize w7.alloc (.cells #[.int .i64 qb.count, .int .i64 qb.idx, .int .i64 qb.it.kind, .string qb.it.id, .string qb.it.parent, .string qb.it.number, .string qb.it.north, .string qb.it.south, .bool qb.it.gone, .slice A7 qb.path.length c7] 29) = w8 at *
  refine (pmake_of exL (some ⟨d, 0, none⟩) 3 3 rfl exL_w (by decide) (by decide) HFX.out ⟨#[120]⟩ w8 (he.next hb8) hC.its _ _ HQX.out).mono ?_
  rintro e w9 ⟨A9, c9, rfl, _, _, hx9⟩
  have hb9 := bnext hb8 hx9
  replace hC := hC.next hx9
  replace hP := hP.next hx9
  clear hx9 hc hb8
  have hx10 := Below.news (Below.refl w9.heap.size w9) (.cells #[.int .i64 qx.count, .int .i64 qx.idx, .int .i64 qx.it.kind, .string qx.it.id, .string qx.it.parent, .string qx.it.number, .string qx.it.north, .string qx.it.south, .bool qx.it.gone, .slice A9 qx.path.length c9] 29)
  have hb10 := bnext hb9 hx10
  replace hC := hC.next hx10
  replace hP := hP.next hx10
  have hc := hC.cell
  clear hx10 hb9
  go_wp2_with fail
  generalize w9.alloc (.cells #[.int .i64 qx.count, .int .i64 qx.idx, .int .i64 qx.it.kind, .string qx.it.id, .string qx.it.parent, .string qx.it.number, .string qx.it.north, .string qx.it.south, .bool qx.it.gone, .slice A9 qx.path.length c9] 29) = w10 at *
  clear hc hC
  refine (signed_of 5 2 R false (by decide) (by decide) (by decide) (by decide) HRZ.out w10 (he.next hb10) K HK.out S1 H1.out).mono ?_
  rintro e w11 ⟨A11, c11, B11, d11, rfl, hc11, hS11, hx11⟩
  have hb11 := bnext hb10 hx11
  replace hP := hP.next hx11
  have hs1 := SR.new (c := c11) (A' := B11) (c' := d11) hS11
  have hx12 := Below.news (Below.refl w11.heap.size w11) (.cells #[.int .i64 0, .slice A11 18 c11, .slice B11 0 d11] 42)
  have hb12 := bnext hb11 hx12
  replace hP := hP.next hx12
  clear hx11 hx12 hb11 hb10 hS11
  go_wp2_with fail
  generalize w11.alloc (.cells #[.int .i64 0, .slice A11 18 c11, .slice B11 0 d11] 42) = w12 at *
  generalize w11.heap.size = s1 at *
  refine (root_nil_of w12 (he.next hb12)).mono ?_
  rintro e w13 ⟨rfl, hx13⟩
  rw [HEL.out]
  have hb13 := bnext hb12 hx13
  replace hP := hP.next hx13
  replace hs1 := hs1.next hx13
  clear hx13 hb12
  go_wp2_with fail
  refine (signed_of 5 2 O false (by decide) (by decide) (by decide) (by decide) HOZ.out w13 (he.next hb13) K HK.out S2 H2.out).mono ?_
  rintro e w14 ⟨A14, c14, B14, d14, rfl, hc14, hS14, hx14⟩
  have hb14 := bnext hb13 hx14
  replace hP := hP.next hx14
  replace hs1 := hs1.next hx14
  have hs2 := SR.new (c := c14) (A' := B14) (c' := d14) hS14
  have hx15 := Below.news (Below.refl w14.heap.size w14) (.cells #[.int .i64 0, .slice A14 18 c14, .slice B14 0 d14] 42)
  have hb15 := bnext hb14 hx15
  replace hP := hP.next hx15
  replace hs1 := hs1.next hx15
  clear hx14 hx15 hb14 hb13 hS14
  go_wp2_with fail
  generalize w14.alloc (.cells #[.int .i64 0, .slice A14 18 c14, .slice B14 0 d14] 42) = w15 at *
  generalize w14.heap.size = s2 at *
  refine (signed_of 7 2 R true (by decide) (by decide) (by decide) (by decide) HRZ.out w15 (he.next hb15) K HK.out S3 H3.out).mono ?_
  rintro e w16 ⟨A16, c16, B16, d16, rfl, hc16, hS16, hx16⟩
  have hb16 := bnext hb15 hx16
  replace hP := hP.next hx16
  replace hs1 := hs1.next hx16
  replace hs2 := hs2.next hx16
  have hs3 := SR.new (c := c16) (A' := B16) (c' := d16) hS16
  have hx17 := Below.news (Below.refl w16.heap.size w16) (.cells #[.int .i64 0, .slice A16 18 c16, .slice B16 0 d16] 42)
  have hb17 := bnext hb16 hx17
  replace hP := hP.next hx17
  replace hs1 := hs1.next hx17
  replace hs2 := hs2.next hx17
  clear hx16 hx17 hb16 hb15 hS16
  go_wp2_with fail
  generalize w16.alloc (.cells #[.int .i64 0, .slice A16 18 c16, .slice B16 0 d16] 42) = w17 at *
  generalize w16.heap.size = s3 at *
  refine (pnew_of K w17).mono ?_
  rintro e w18 ⟨rfl, hR, _, hx18⟩
  have hmb : w.heap.size ≤ w17.heap.size := hb17.size
  have n3 : p3 ≠ w17.heap.size := Nat.ne_of_lt (lt_of_block hP.row)
  have n10 : s1 ≠ w17.heap.size := Nat.ne_of_lt (lt_of_block hs1.row)
  have n13 : s2 ≠ w17.heap.size := Nat.ne_of_lt (lt_of_block hs2.row)
  have n15 : s3 ≠ w17.heap.size := Nat.ne_of_lt (lt_of_block hs3.row)
  have hb18 := bnext hb17 hx18
  replace hP := hP.next hx18
  replace hs1 := hs1.next hx18
  replace hs2 := hs2.next hx18
  replace hs3 := hs3.next hx18
  clear hx18 hb17
  generalize w17.heap.size + 1 = br at *
  generalize w17.heap.size = mb at *
  have HMB := hide hmb; have N3H := hide n3; have N10H := hide n10; have N13H := hide n13; have N15H := hide n15
  clear hmb n3 n10 n13 n15
  have hit := item_eql w18 exA exA
  have hsm := (sameI_iff exA exA).2 rfl
  rw [hsm] at hit
  simp only [exA] at hit
  obtain ⟨z0, z1, z2, z3, z4, z5, z6, z7, z8, z9⟩ := jCells10 hP.row
  go_wp2_with fail
  refine (pcheck_of R ⟨2, 0, exA, [q]⟩ A5 1 c5 rfl (by decide) (fun s hs => by rw [List.mem_singleton.1 hs]; exact HQZ.out) exA_leaf w18 (he.next hb18) hP.strs true HCK.out).mono ?_
  rintro e w19 ⟨rfl, hx19⟩
  have hb19 := bnext hb18 hx19
  replace hP := hP.next hx19
  replace hs1 := hs1.next hx19
  replace hs2 := hs2.next hx19
  replace hs3 := hs3.next hx19
  replace hR := hR.below hx19
  clear hx19 hb18 z0 z1 z2 z3 z4 z5 z6 z7 z8 z9 hit hsm
  have hm := map_row hR.map
  obtain ⟨y0, y1, y2⟩ := jCells3 hs1.row
  go_wp2_with fail
  refine (plearn_of br mb K [] 5 2 R (by decide) (by decide) (by decide) (by decide) HRZ.out (by decide) 0 A11 18 c11 S1 B11 0 d11 [] N1.out Z1.out rfl (fun s hs => by cases hs) hc11 w19 (he.next hb19) hs1.strs ⟨fun h => by simp at h⟩ hR true V1.out 0 D1 HLN1.out).mono ?_
  rintro e w20 ⟨rfl, hR2, ho⟩
  have hb20 := hb19.trans (ho.below (B := w.heap.size) hb19.size (by simpa using HMB.out))
  replace hP := hP.learn hm ho N3H.out
  replace hs1 := hs1.learn hm ho N10H.out
  replace hs2 := hs2.learn hm ho N13H.out
  replace hs3 := hs3.learn hm ho N15H.out
  clear y0 y1 y2 hm hR ho hb19
  have hR := hR2
  clear hR2
  have hm := map_row hR.map
  obtain ⟨y0, y1, y2⟩ := jCells3 hs1.row
  go_wp2_with fail
  refine (plearn_of br mb K D1 5 2 R (by decide) (by decide) (by decide) (by decide) HRZ.out HDL1.out 0 A11 18 c11 S1 B11 0 d11 [] N1.out Z1.out rfl (fun s hs => by cases hs) hc11 w20 (he.next hb20) hs1.strs ⟨fun h => by simp at h⟩ hR true V1.out 0 D2 HLN2.out).mono ?_
  rintro e w21 ⟨rfl, hR2, ho⟩
  have hb21 := hb20.trans (ho.below (B := w.heap.size) hb20.size (by simpa using HMB.out))
  replace hP := hP.learn hm ho N3H.out
  replace hs1 := hs1.learn hm ho N10H.out
  replace hs2 := hs2.learn hm ho N13H.out
  replace hs3 := hs3.learn hm ho N15H.out
  clear y0 y1 y2 hm hR ho hb20
  have hR := hR2
  clear hR2
  have hm := map_row hR.map
  obtain ⟨y0, y1, y2⟩ := jCells3 hs2.row
  go_wp2_with fail
  refine (plearn_of br mb K D2 5 2 O (by decide) (by decide) (by decide) (by decide) HOZ.out HDL2.out 0 A14 18 c14 S2 B14 0 d14 [] N2.out Z2.out rfl (fun s hs => by cases hs) hc14 w21 (he.next hb21) hs2.strs ⟨fun h => by simp at h⟩ hR true V2.out 23 D2 HLN3.out).mono ?_
  rintro e w22 ⟨rfl, hR2, ho⟩
  have hb22 := hb21.trans (ho.below (B := w.heap.size) hb21.size (by simpa using HMB.out))
  replace hP := hP.learn hm ho N3H.out
  replace hs1 := hs1.learn hm ho N10H.out
  replace hs2 := hs2.learn hm ho N13H.out
  replace hs3 := hs3.learn hm ho N15H.out
  clear y0 y1 y2 hm hR ho hb21
  have hR := hR2
  clear hR2
  have hm := map_row hR.map
  obtain ⟨y0, y1, y2⟩ := jCells3 hs1.row
  go_wp2_with fail
  refine (plearn_of br mb K D2 6 2 R (by decide) (by decide) (by decide) (by decide) HRZ.out HDL2.out 0 A11 18 c11 S1 B11 0 d11 [] N1.out Z1.out rfl (fun s hs => by cases hs) hc11 w22 (he.next hb22) hs1.strs ⟨fun h => by simp at h⟩ hR false V3.out 19 D2 HLN4.out).mono ?_
  rintro e w23 ⟨rfl, hR2, ho⟩
  have hb23 := hb22.trans (ho.below (B := w.heap.size) hb22.size (by simpa using HMB.out))
  replace hP := hP.learn hm ho N3H.out
  replace hs1 := hs1.learn hm ho N10H.out
  replace hs2 := hs2.learn hm ho N13H.out
  replace hs3 := hs3.learn hm ho N15H.out
  clear y0 y1 y2 hm hR ho hb22
  have hR := hR2
  clear hR2
  have hm := map_row hR.map
  obtain ⟨y0, y1, y2⟩ := jCells3 hs3.row
  go_wp2_with fail
  refine (plearn_of br mb K D2 7 2 R (by decide) (by decide) (by decide) (by decide) HRZ.out HDL2.out 0 A16 18 c16 S3 B16 0 d16 [] N3.out Z3.out rfl (fun s hs => by cases hs) hc16 w23 (he.next hb23) hs3.strs ⟨fun h => by simp at h⟩ hR false V4.out 19 D2 HLN5.out).mono ?_
  rintro e w24 ⟨rfl, hR2, ho⟩
  have hb24 := hb23.trans (ho.below (B := w.heap.size) hb23.size (by simpa using HMB.out))
  replace hP := hP.learn hm ho N3H.out
  replace hs1 := hs1.learn hm ho N10H.out
  replace hs2 := hs2.learn hm ho N13H.out
  replace hs3 := hs3.learn hm ho N15H.out
  clear y0 y1 y2 hm hR ho hb23
  have hR := hR2
  clear hR2
  clear hs1 hs2 hs3
  obtain ⟨z0, z1, z2, z3, z4, z5, z6, z7, z8, z9⟩ := jCells10 hP.row
  go_wp2_with fail
  refine (pwas_of br mb K D2 5 (by decide) (by decide) ⟨2, 0, exA, [q]⟩ A5 1 c5 rfl (by decide) (fun s hs => by rw [List.mem_singleton.1 hs]; exact HQZ.out) exA_leaf w24 (he.next hb24) hP.strs hR 0 HW1.out).mono ?_
  rintro e w25 ⟨rfl, hx⟩
  have hb25 := bnext hb24 hx
  replace hP := hP.next hx
  replace hR := hR.below hx
  clear hx hb24 z0 z1 z2 z3 z4 z5 z6 z7 z8 z9
  obtain ⟨z0, z1, z2, z3, z4, z5, z6, z7, z8, z9⟩ := jCells10 hP.row
  go_wp2_with fail
  refine (pwas_of br mb K D2 6 (by decide) (by decide) ⟨2, 0, exA, [q]⟩ A5 1 c5 rfl (by decide) (fun s hs => by rw [List.mem_singleton.1 hs]; exact HQZ.out) exA_leaf w25 (he.next hb25) hP.strs hR 11 HW2.out).mono ?_
  rintro e w26 ⟨rfl, hx⟩
  have hb26 := bnext hb25 hx
  replace hP := hP.next hx
  replace hR := hR.below hx
  clear hx hb25 z0 z1 z2 z3 z4 z5 z6 z7 z8 z9
  go_wp2_with fail
  refine (pwas_of br mb K D2 5 (by decide) (by decide) noPf none 0 0 rfl (by decide) (fun s hs => by cases hs) (by decide) w26 (he.next hb26) ⟨fun h => by simp [noPf] at h⟩ hR 21 HW3.out).mono ?_
  rintro e w27 ⟨rfl, hx⟩
  have hb27 := bnext hb26 hx
  replace hP := hP.next hx
  replace hR := hR.below hx
  clear hx hb26
  go_wp2_with fail
  refine (pdays_of br mb K D2 HDL2.out w27 hR).mono ?_
  rintro e w28 ⟨⟨A28, c28, rfl, hz⟩, hx⟩
  have hb28 := bnext hb27 hx
  replace hP := hP.next hx
  clear hx hb27 hR
  rw [HDD.out] at hz
  simp only [HDD.out, List.length_cons, List.length_nil, Nat.zero_add]
  have hx := Below.news (Below.refl w28.heap.size w28) (.cells #[.int .i64 5] 3)
  have hz1 := hz.keep hx
  have hz2 := Zs.new1 w28 5
  have hb29 := bnext hb28 hx
  replace hP := hP.next hx
  go_wp2_with fail
  refine (ints_any A28 (some ⟨w28.heap.size, 0, none⟩) c28 1 [5] [5] _ (by decide) (by decide) hz1 hz2).mono ?_
  rintro e w30 ⟨rfl, hx3⟩
  have hb30 := bnext hb29 hx3
  replace hP := hP.next hx3
  have hdd : decide (([5] : List Int) = [5]) = true := rfl
  rw [hdd]
  clear hx hx3 hb29 hb28 hz hz1 hz2 hdd
  obtain ⟨z0, z1, z2, z3, z4, z5, z6, z7, z8, z9⟩ := jCells10 hP.row
  go_wp2_with fail
  refine (pwas_nil 5 ⟨2, 0, exA, [q]⟩ A5 1 c5 w30).mono ?_
  rintro e w31 ⟨rfl, hx⟩
  have hb31 := bnext hb30 hx
  clear hx hb30 z0 z1 z2 z3 z4 z5 z6 z7 z8 z9 hP
  go_wp2_with fail
  refine (pdays_nil w31).mono ?_
  rintro e w32 ⟨rfl, hx⟩
  have hb32 := bnext hb31 hx
  go_wp2
  go_ret
  exact ⟨rfl, hb32⟩
end Go.Proofs.YtobhpeockinnjaaGreatDoor
/- What a reader is told, in memory; short of pandectlaw44. No conditions but those that each theorem states. -/
namespace Go.Proofs.YtobhpeockinnjaaGreatDoor
open Go Go.RowKit Go.Sort Go.Maps
attribute [local go_sem] Oper.semAt_some
/-- What a reader is told. -/
structure Td where
  day : Int
  count : Int
  root : ByteArray
  wrong : Bool
def tdV (x : Td) : List Value := [.int .i64 x.day, .int .i64 x.count, .string x.root, .bool x.wrong]
structure Tds (w : World) (B : Nat) (A : Option Addr) (l : List Td) : Prop where
  at_ : 0 < l.length → ∃ b off, A = some ⟨b, off, none⟩ ∧ b < B ∧ ∀ (j : Nat) (x : Td), l[j]? = some x → ∀ (i : Nat) (u : Value), (tdV x)[i]? = some u → w.cell? ⟨b, off + j * 4 + i, none⟩ = some u
theorem Tds.below {w w' : World} {B : Nat} {A : Option Addr} {l : List Td} (h : Tds w B A l) (hb : Below B w w') : Tds w' B A l :=
  ⟨fun h0 => by
    obtain ⟨b, off, e, hlt, hc⟩ := h.at_ h0
    exact ⟨b, off, e, hlt, fun j x hj i u hu => (hb.cell (p := ⟨b, off + j * 4 + i, none⟩) hlt).trans (hc j x hj i u hu)⟩⟩
theorem Tds.more {w : World} {B B' : Nat} {A : Option Addr} {l : List Td} (h : Tds w B A l) (hB : B ≤ B') : Tds w B' A l :=
  ⟨fun h0 => by
    obtain ⟨b, off, e, hlt, hc⟩ := h.at_ h0
    exact ⟨b, off, e, Nat.lt_of_lt_of_le hlt hB, hc⟩⟩
theorem Tds.keep {w w' : World} {A : Option Addr} {l : List Td} (h : Tds w w.heap.size A l) (hb : Below w.heap.size w w') : Tds w' w'.heap.size A l := (h.below hb).more hb.size
theorem Tds.get {w : World} {B : Nat} {A : Option Addr} {l : List Td} (h : Tds w B A l) {k : Nat} (hk : k < l.length) : ∃ b off, A = some ⟨b, off, none⟩ ∧ b < B ∧
    w.cell? ⟨b, off + k * 4, none⟩ = some (.int .i64 l[k].day) ∧ w.cell? ⟨b, off + k * 4 + 1, none⟩ = some (.int .i64 l[k].count) ∧ w.cell? ⟨b, off + k * 4 + 2, none⟩ = some (.string l[k].root) ∧ w.cell? ⟨b, off + k * 4 + 3, none⟩ = some (.bool l[k].wrong) := by
  obtain ⟨b, off, e, hb, hc⟩ := h.at_ (by omega)
  have h0 := hc k _ (List.getElem?_eq_getElem hk)
  exact ⟨b, off, e, hb, h0 0 _ rfl, h0 1 _ rfl, h0 2 _ rfl, h0 3 _ rfl⟩
def shortL (l : List Td) (m : Int) : Bool := decide ((l.length : Int) ≤ m) && l.all fun x => decide (x.root.size ≤ 100)
theorem shortL_spec {l : List Td} {m : Int} (h : shortL l m = true) : (l.length : Int) ≤ m ∧ ∀ x ∈ l, x.root.size ≤ 100 := by
  unfold shortL at h
  rw [Bool.and_eq_true, List.all_eq_true] at h
  exact ⟨of_decide_eq_true h.1, fun x hx => of_decide_eq_true (h.2 x hx)⟩
set_option maxRecDepth 100000 in
set_option maxHeartbeats 4000000 in
theorem short_of (l : List Td) (A : Option Addr) (n c : Nat) (hl : l.length = n) (hn : n ≤ 9223372036854775807) (m : Int) (w : World) (hT : Tds w w.heap.size A l) (hz : ∀ x ∈ l, x.root.size ≤ 9223372036854775807) (R : Bool) (hR : shortL l m = R) :
    Calls Tryz.prog 13 #[.slice A n c, .int .i64 m] w fun e w' => e = .returned (.bool R) ∧ Below w.heap.size w w' := by
  have HL := hide hl; have HR := hide hR; have HZ := hide hz
  clear hl hR hz
  by_cases hnm : (n : Int) ≤ m
  · go_enter Tryz.func13, Tryz.ntmps13
    go_wp2
    go_loopw [5] (fun i wr => ∃ k : Nat, k ≤ n ∧ i = .int .i64 k ∧ Below w.heap.size w wr ∧ Hid (∀ x ∈ l.take k, x.root.size ≤ 100)) (fun i _ => n - (intOf i).toNat)
    case atStart => exact ⟨0, by omega, rfl, Below.refl _ _, fun x hx => by simp at hx⟩
    case round =>
      obtain ⟨k, hk, rfl, hb, hall⟩ := hrel
      by_cases hlt : k < n
      · have hkl : k < l.length := by rw [HL.out]; exact hlt
        obtain ⟨b, off, rfl, hbl, _, _, hc2, _⟩ := (hT.below hb).get hkl
        have hts := hide (List.take_succ_eq_append_getElem hkl)
        have hmem := hide (List.getElem_mem hkl)
        have hkn : (k : Int) < (n : Int) := by omega
        have hk0 : (0 : Int) ≤ (k : Int) := by omega
        generalize l[k] = x at *
        have hxz := HZ.out x hmem.out
        by_cases hx : x.root.size ≤ 100
        · have hgt : ¬ ((100 : Int) < (x.root.size : Int)) := by omega
          have HX := hide hx; clear hx
          go_wp2
          go_roundw
          case rel => exact ⟨k + 1, by omega, by go_num, hb, fun z hz => by
            rw [hts.out] at hz
            rcases List.mem_append.1 hz with hz | hz
            · exact hall.out z hz
            · rw [List.mem_singleton.1 hz]; exact HX.out⟩
          case measure => simp [intOf]; omega
        · have hgt : ((100 : Int) < (x.root.size : Int)) := by omega
          have HX := hide hx; clear hx
          have E9 := hide (show false = R by
            rw [← HR.out]
            cases h : shortL l m with
            | false => rfl
            | true => exact absurd ((shortL_spec h).2 x hmem.out) HX.out)
          go_wp2
          go_ret
          exact ⟨ret_bool E9.out, hb⟩
      · obtain rfl : k = n := by omega
        have E9 := hide (show true = R by
          rw [← HR.out]
          unfold shortL
          rw [decide_eq_true (show (l.length : Int) ≤ m by rw [HL.out]; exact hnm), List.all_eq_true.2 fun x hx => decide_eq_true (hall.out x (by rw [← HL.out, List.take_length]; exact hx))]
          rfl)
        go_wp2
        go_ret
        exact ⟨ret_bool E9.out, hb⟩
  · have E9 := hide (show false = R by
      rw [← HR.out]
      cases h : shortL l m with
      | false => rfl
      | true => exact absurd (by have := (shortL_spec h).1; rw [HL.out] at this; exact this) hnm)
    go_enter Tryz.func13, Tryz.ntmps13
    go_wp2
    go_loopw [5] (fun i wr => i = .int .i64 0 ∧ Below w.heap.size w wr) (fun _ _ => 0)
    case atStart => exact ⟨rfl, Below.refl _ _⟩
    case round =>
      obtain ⟨rfl, hb⟩ := hrel
      by_cases h0 : (0 : Int) < (n : Int)
      · go_wp2
        go_ret
        exact ⟨ret_bool ((decide_eq_false (show ¬ (n : Int) ≤ m by omega)).trans E9.out), hb⟩
      · go_wp2
        go_ret
        exact ⟨ret_bool ((decide_eq_false (show ¬ (n : Int) ≤ m by omega)).trans E9.out), hb⟩
end Go.Proofs.YtobhpeockinnjaaGreatDoor
/- The days that a reader knows, in plain Lean; the law ProofOrders. No conditions but those that each theorem states. -/
namespace Go.Proofs.YtobhpeockinnjaaGreatDoor
open Go Go.RowKit Go.Sort Go.Maps
def isIntK : Lit → Bool
  | .int .i64 _ => true
  | _ => false
theorem isIntK_out {k : Lit} (h : isIntK k = true) : ∃ x, k = .int .i64 x := by
  unfold isIntK at h
  split at h
  · exact ⟨_, rfl⟩
  · cases h
theorem daysD_tidy : ∀ l, Tidy (daysD l)
  | [] => tidy_empty
  | (_, _, _) :: l => (daysD_tidy l).put (by trivial) _
theorem any_filter_le {α : Type} {f g : α → Bool} : ∀ l : List α, l.any f = false → (l.filter g).any f = false
  | [], _ => rfl
  | y :: r, h => by
    rw [List.any_cons, Bool.or_eq_false_iff] at h
    rw [List.filter_cons]
    split
    · rw [List.any_cons, h.1, any_filter_le r h.2]; rfl
    · exact any_filter_le r h.2
theorem daysD_ints : ∀ l, ∃ es, daysD l = .map es ∧ es.any (fun p => !isIntK p.1) = false
  | [] => ⟨[], rfl, rfl⟩
  | (d, c, r) :: l => by
    obtain ⟨es, h, hf⟩ := daysD_ints l
    refine ⟨DataW.insert (.int .i64 d, .agg [.lit (.int .i64 c), .lit (.string r.data.toList)]) (es.filter fun p => !p.1.sameKey (.int .i64 d)), ?_, ?_⟩
    · rw [daysD, h]; rfl
    · rw [any_insert, any_filter_le es hf]; rfl
theorem daysD_form (l : List Dy) : ∃ es : List (Lit × DataW Unit), daysD l = .map es ∧ es.Pairwise (fun p q => p.1 ≠ q.1) ∧ ∀ p ∈ es, ∃ x, p.1 = .int .i64 x := by
  obtain ⟨es, h, hf⟩ := daysD_ints l
  obtain ⟨es', h', hp⟩ := daysD_tidy l
  obtain rfl : es = es' := by
    rw [h] at h'
    injection h'
  refine ⟨es, h, hp, fun p hm => isIntK_out ?_⟩
  cases hi : isIntK p.1 with
  | true => rfl
  | false => rw [List.any_eq_false] at hf; exact absurd (hf p hm) (by rw [hi]; decide)
theorem intKeys_mem (l : List Dy) (x : Int) : x ∈ intKeys (daysD l) ↔ (foundD l x).isSome = true := by
  rw [← daysD_has x l]
  obtain ⟨es, h, _, hk⟩ := daysD_form l
  rw [h, has_eq, List.any_eq_true]
  show x ∈ es.map (fun p => Go.intOf p.1) ↔ _
  rw [List.mem_map]
  constructor
  · rintro ⟨p, hp', rfl⟩
    obtain ⟨a, ha⟩ := hk p hp'
    exact ⟨p, hp', by rw [ha]; simp [Lit.sameKey, Go.intOf]⟩
  · rintro ⟨p, hp', hs⟩
    obtain ⟨a, ha⟩ := hk p hp'
    rw [ha] at hs
    exact ⟨p, hp', by rw [ha]; simpa [Lit.sameKey, Go.intOf] using hs⟩
theorem intKeys_nodup (l : List Dy) : (intKeys (daysD l)).Nodup := by
  obtain ⟨es, h, hp, hk⟩ := daysD_form l
  rw [h]
  show (es.map fun p => Go.intOf p.1).Nodup
  refine List.pairwise_map.2 (hp.imp_of_mem fun {p q} hp' hq' hne e => hne ?_)
  obtain ⟨a, ha⟩ := hk p hp'
  obtain ⟨b, hb⟩ := hk q hq'
  rw [ha, hb] at e ⊢
  exact congrArg _ e
theorem daysS_mem (l : List Dy) (x : Int) : x ∈ daysS l ↔ (foundD l x).isSome = true := by
  unfold daysS
  rw [List.mem_mergeSort, intKeys_mem]
theorem daysS_up (l : List Dy) {i : Nat} (hi : i + 1 < (daysS l).length) : (daysS l)[i] < (daysS l)[i + 1] := by
  have tr : ∀ a b c : Int, (fun x y : Int => decide (x ≤ y)) a b = true → (fun x y : Int => decide (x ≤ y)) b c = true → (fun x y : Int => decide (x ≤ y)) a c = true := fun a b c h1 h2 => by simp only [decide_eq_true_eq] at *; exact Int.le_trans h1 h2
  have tt9 : ∀ a b : Int, ((fun x y : Int => decide (x ≤ y)) a b || (fun x y : Int => decide (x ≤ y)) b a) = true := fun a b => by simp only [Bool.or_eq_true, decide_eq_true_eq]; exact Int.le_total a b
  have h1 := List.pairwise_iff_getElem.1 (List.pairwise_mergeSort tr tt9 (intKeys (daysD l))) i (i + 1) (by unfold daysS at hi; omega) (by unfold daysS at hi; omega) (by omega)
  have h2 : (daysS l).Nodup := (List.mergeSort_perm (intKeys (daysD l)) (fun x y => decide (x ≤ y))).nodup_iff.2 (intKeys_nodup l)
  have h3 := List.pairwise_iff_getElem.1 h2 i (i + 1) (by omega) (by omega) (by omega)
  have h4 : (daysS l)[i] ≤ (daysS l)[i + 1] := of_decide_eq_true h1
  exact Int.lt_iff_le_and_ne.2 ⟨h4, h3⟩
/-- Whether what a reader is told bears the seal of a key. -/
def vT (K : ByteArray) (x : Td) : Bool := verifyB K (msgB x.day x.count x.root) 0 (Dg.sigB (secB x.wrong) 0 (msgB x.day x.count x.root)) []
def accT (K : ByteArray) (x : Td) : Prop := ¬ learnBad x.day x.count x.root ∧ vT K x = true
theorem learn_inv {l l' : List Dy} {V : Bool} {d c E : Int} {r : ByteArray} (h : learnE l V d c r = (E, l')) (hE : E ≠ 23) (P : Int → Int × ByteArray → Prop) (hP : ∀ k v, foundD l k = some v ↔ P k v) :
    ∀ k v, foundD l' k = some v ↔ P k v ∨ ((¬ learnBad d c r ∧ V = true) ∧ d = k ∧ v = (c, r)) := by
  intro k v
  by_cases hb : learnBad d c r
  · rw [learnE_bad hb] at h
    injection h with h1 h2
    subst h2
    rw [hP]
    exact ⟨Or.inl, fun h => h.resolve_right fun q => q.1.1 hb⟩
  · cases V with
    | false =>
      rw [learnE_key hb] at h
      injection h with h1 h2
      subst h2
      rw [hP]
      exact ⟨Or.inl, fun h => h.resolve_right fun q => by cases q.1.2⟩
    | true =>
      have hcons : ∀ (h9 : foundD l d = none ∨ foundD l d = some (c, r)), foundD ((d, c, r) :: l) k = some v ↔ P k v ∨ ((¬ learnBad d c r ∧ true = true) ∧ d = k ∧ v = (c, r)) := fun h9 => by
        rw [foundD]
        by_cases hk : d = k
        · rw [if_pos hk]
          constructor
          · intro e
            exact Or.inr ⟨⟨hb, rfl⟩, hk, (Option.some.inj e).symm⟩
          · rintro (e | ⟨_, _, e⟩)
            · rw [← hP, ← hk] at e
              rcases h9 with h9 | h9
              · rw [h9] at e; cases e
              · rw [h9] at e; exact e
            · rw [e]
        · rw [if_neg hk, hP]
          exact ⟨Or.inl, fun h => h.resolve_right fun q => hk q.2.1⟩
      cases hf : foundD l d with
      | none =>
        rw [learnE_new hb hf] at h
        injection h with h1 h2
        subst h2
        exact hcons (Or.inl hf)
      | some cr =>
        obtain ⟨c0, r0⟩ := cr
        by_cases hs : c0 = c ∧ r0 = r
        · obtain ⟨rfl, rfl⟩ := hs
          rw [learnE_same hb hf] at h
          injection h with h1 h2
          subst h2
          exact hcons (Or.inr hf)
        · rw [learnE_fork hb hf hs] at h
          injection h with h1 h2
          exact absurd h1.symm hE
/-- What a reader knows who was told some things, and found no fork. -/
def Knows (K : ByteArray) (q : List Td) (lr : List Dy) : Prop := ∀ k v, foundD lr k = some v ↔ ∃ x ∈ q, accT K x ∧ x.day = k ∧ v = (x.count, x.root)
theorem Knows.step {K : ByteArray} {q q' : List Td} {lr l' : List Dy} {E : Int} {x : Td} (h : Knows K q lr) (hq : ∀ y, y ∈ q' ↔ y ∈ q ∨ y = x) (hl : learnE lr (vT K x) x.day x.count x.root = (E, l')) (hE : E ≠ 23) : Knows K q' l' := fun k v => by
  rw [learn_inv hl hE _ h k v]
  constructor
  · rintro (⟨y, hy, h1⟩ | ⟨h1, h2, h3⟩)
    · exact ⟨y, (hq y).2 (Or.inl hy), h1⟩
    · exact ⟨x, (hq x).2 (Or.inr rfl), h1, h2, h3⟩
  · rintro ⟨y, hy, h1, h2, h3⟩
    rcases (hq y).1 hy with hy | rfl
    · exact Or.inl ⟨y, hy, h1, h2, h3⟩
    · exact Or.inr ⟨h1, h2, h3⟩
theorem Knows.same {K : ByteArray} {q : List Td} {lr ls : List Dy} (h1 : Knows K q lr) (h2 : Knows K q ls) : ∀ k, foundD lr k = foundD ls k := fun k => by
  refine Option.ext fun v => ?_
  rw [h1 k v, h2 k v]
theorem was_same {lr ls : List Dy} (h : ∀ k, foundD lr k = foundD ls k) (d : Int) (p : Pf) : wasE lr d p = wasE ls d p := by
  unfold wasE
  rw [h]
theorem learn_len {l l' : List Dy} {V : Bool} {d c E : Int} {r : ByteArray} (h : learnE l V d c r = (E, l')) : l'.length ≤ l.length + 1 := by
  unfold learnE at h
  split at h
  · injection h with _ h; rw [← h]; omega
  · split at h
    · injection h with _ h; rw [← h]; omega
    · split at h
      · split at h
        · injection h with _ h; rw [← h]; simp
        · injection h with _ h; rw [← h]; omega
      · injection h with _ h; rw [← h]; simp
end Go.Proofs.YtobhpeockinnjaaGreatDoor
/- The reference's reader in plain Lean: a list in increasing order of days. No conditions but those that each theorem states. -/
namespace Go.Proofs.YtobhpeockinnjaaGreatDoor
open Go Go.RowKit Go.Sort Go.Maps
def upD (M : List Dy) : Prop := M.Pairwise fun a b => a.1 < b.1
def cntD : List Dy → Int → Nat
  | [], _ => 0
  | y :: M, d => if y.1 < d then cntD M d + 1 else 0
def insD : List Dy → Dy → List Dy
  | [], x => [x]
  | y :: M, x => if y.1 < x.1 then y :: insD M x else x :: y :: M
theorem cntD_le (M : List Dy) (d : Int) : cntD M d ≤ M.length := by
  induction M with
  | nil => exact Nat.le_refl _
  | cons y M ih =>
    unfold cntD
    split
    · exact Nat.succ_le_succ ih
    · exact Nat.zero_le _
theorem cntD_lt (M : List Dy) (d : Int) {j : Nat} (h : j < cntD M d) {y : Dy} (hy : M[j]? = some y) : y.1 < d := by
  induction M generalizing j with
  | nil => cases hy
  | cons z M ih =>
    unfold cntD at h
    split at h
    · rename_i hz
      cases j with
      | zero => cases hy; exact hz
      | succ j => exact ih (j := j) (by omega) (by simpa using hy)
    · omega
theorem cntD_at (M : List Dy) (d : Int) {y : Dy} (hy : M[cntD M d]? = some y) : ¬ y.1 < d := by
  induction M with
  | nil => cases hy
  | cons z M ih =>
    unfold cntD at hy
    split at hy
    · exact ih (by simpa using hy)
    · rename_i hz
      cases hy; exact hz
/-- The loop's count: all before are smaller, and here it stops. -/
theorem cntD_eq (M : List Dy) (d : Int) {k : Nat} (hk : k ≤ M.length) (h : ∀ j y, j < k → M[j]? = some y → y.1 < d) (hs : ∀ y, M[k]? = some y → ¬ y.1 < d) : cntD M d = k := by
  have h0 := cntD_le M d
  rcases Nat.lt_trichotomy (cntD M d) k with h1 | h1 | h1
  · exfalso
    obtain ⟨y, hy⟩ : ∃ y, M[cntD M d]? = some y := ⟨_, List.getElem?_eq_getElem (by omega)⟩
    exact cntD_at M d hy (h _ y h1 hy)
  · exact h1
  · exfalso
    obtain ⟨y, hy⟩ : ∃ y, M[k]? = some y := ⟨_, List.getElem?_eq_getElem (by omega)⟩
    exact hs y hy (cntD_lt M d h1 hy)
theorem insD_eq (M : List Dy) (x : Dy) : insD M x = M.take (cntD M x.1) ++ x :: M.drop (cntD M x.1) := by
  induction M with
  | nil => rfl
  | cons y M ih =>
    unfold insD cntD
    by_cases h : y.1 < x.1
    · rw [if_pos h, if_pos h, List.take_succ_cons, List.drop_succ_cons, List.cons_append, ih]
    · rw [if_neg h, if_neg h]; rfl
theorem insD_mem {M : List Dy} {x y : Dy} (h : y ∈ insD M x) : y = x ∨ y ∈ M := by
  induction M with
  | nil => exact Or.inl (List.mem_singleton.1 h)
  | cons z M ih =>
    unfold insD at h
    split at h
    · rcases List.mem_cons.1 h with h | h
      · exact Or.inr (h ▸ List.mem_cons_self ..)
      · exact (ih h).imp id fun h => List.mem_cons_of_mem _ h
    · rcases List.mem_cons.1 h with h | h
      · exact Or.inl h
      · exact Or.inr h
theorem upD_ins {M : List Dy} {x : Dy} (h : upD M) (hn : foundD M x.1 = none) : upD (insD M x) := by
  induction M with
  | nil => exact List.pairwise_singleton _ _
  | cons y M ih =>
    obtain ⟨h1, h2⟩ := List.pairwise_cons.1 h
    obtain ⟨d, c, r⟩ := y
    rw [foundD] at hn
    have hne : d ≠ x.1 := fun e => by rw [if_pos e] at hn; cases hn
    rw [if_neg hne] at hn
    unfold insD
    split
    · rename_i hlt
      refine List.pairwise_cons.2 ⟨fun z hz => ?_, ih h2 hn⟩
      rcases insD_mem hz with rfl | hz
      · exact hlt
      · exact h1 z hz
    · rename_i hge
      have hlt : x.1 < d := by
        have : ¬ d < x.1 := hge
        omega
      refine List.pairwise_cons.2 ⟨fun z hz => ?_, h⟩
      rcases List.mem_cons.1 hz with rfl | hz
      · exact hlt
      · exact Int.lt_trans hlt (h1 z hz)
theorem foundD_ins (M : List Dy) (d c : Int) (r : ByteArray) (k : Int) : foundD (insD M (d, c, r)) k = if d = k then some (c, r) else foundD M k := by
  induction M with
  | nil => rfl
  | cons y M ih =>
    obtain ⟨d', c', r'⟩ := y
    unfold insD
    by_cases h : d' < d
    · rw [if_pos h, foundD, ih, foundD]
      by_cases h2 : d' = k
      · rw [if_pos h2, if_pos h2, if_neg (by omega)]
      · rw [if_neg h2, if_neg h2]
    · rw [if_neg h, foundD]
theorem foundD_big {M : List Dy} {d : Int} (h : ∀ y ∈ M, d < y.1) : foundD M d = none := by
  induction M with
  | nil => rfl
  | cons y M ih =>
    have h1 := h y (List.mem_cons_self ..)
    obtain ⟨d', c', r'⟩ := y
    rw [foundD, if_neg (fun e => Int.ne_of_lt h1 e.symm), ih fun z hz => h z (List.mem_cons_of_mem _ hz)]
theorem foundD_cnt {M : List Dy} (h : upD M) (d : Int) : foundD M d = match M[cntD M d]? with | some y => if y.1 = d then some y.2 else none | none => none := by
  induction M with
  | nil => rfl
  | cons y M ih =>
    obtain ⟨h1, h2⟩ := List.pairwise_cons.1 h
    obtain ⟨d', c', r'⟩ := y
    unfold cntD
    by_cases hlt : d' < d
    · rw [if_pos hlt, foundD, if_neg (Int.ne_of_lt hlt), ih h2, List.getElem?_cons_succ]
    · rw [if_neg hlt, foundD, List.getElem?_cons_zero]
      by_cases he : d' = d
      · rw [if_pos he]
        show _ = if d' = d then _ else _
        rw [if_pos he]
      · rw [if_neg he]
        show _ = if d' = d then _ else _
        rw [if_neg he]
        exact foundD_big fun z hz => Int.lt_trans (by
          have : ¬ d' < d := hlt
          omega) (h1 z hz)
/-- What the reference's Learn answers, and its list after. -/
def rlearnE (M : List Dy) (V : Bool) (d c : Int) (root : ByteArray) : Int × List Dy :=
  if learnBad d c root then (1, M)
  else if V = false then (19, M)
  else match M[cntD M d]? with
    | some y => if y.1 = d then (if y = (d, c, root) then (0, M) else (23, M)) else (0, insD M (d, c, root))
    | none => (0, insD M (d, c, root))
structure SameR (lr M : List Dy) : Prop where
  up : upD M
  eq : ∀ k, foundD lr k = foundD M k
theorem SameR.nil : SameR [] [] := ⟨List.Pairwise.nil, fun _ => rfl⟩
theorem SameR.learn {lr M : List Dy} (h : SameR lr M) {V : Bool} {d c : Int} {root : ByteArray} {E : Int} {D : List Dy} (hE : learnE lr V d c root = (E, D)) : ∃ M', rlearnE M V d c root = (E, M') ∧ SameR D M' := by
  by_cases hb : learnBad d c root
  · rw [learnE_bad hb] at hE
    injection hE with e1 e2
    subst e1 e2
    exact ⟨M, if_pos hb, h⟩
  cases V with
  | false =>
    rw [learnE_key hb] at hE
    injection hE with e1 e2
    subst e1 e2
    exact ⟨M, by unfold rlearnE; rw [if_neg hb, if_pos rfl], h⟩
  | true =>
    have hf := foundD_cnt h.up d
    rw [← h.eq] at hf
    unfold rlearnE
    rw [if_neg hb, if_neg (by decide)]
    have ins : ∀ l', (∀ k, foundD l' k = if d = k then some (c, root) else foundD lr k) → foundD lr d = none → SameR l' (insD M (d, c, root)) := fun l' h1 h2 => ⟨upD_ins h.up (by rw [← h.eq]; exact h2), fun k => by rw [h1, foundD_ins, h.eq]⟩
    cases hm : M[cntD M d]? with
    | none =>
      rw [hm] at hf
      rw [learnE_new hb hf] at hE
      injection hE with e1 e2
      subst e1 e2
      exact ⟨_, rfl, ins _ (fun k => rfl) hf⟩
    | some y =>
      rw [hm] at hf
      obtain ⟨d', c', r'⟩ := y
      by_cases hd : d' = d
      · subst hd
        replace hf : foundD lr d' = some (c', r') := by
          rw [hf]
          show (if d' = d' then _ else _) = _
          rw [if_pos rfl]
        show ∃ M', (if d' = d' then (if ((d', c', r') : Dy) = (d', c, root) then _ else _) else _) = _ ∧ _
        rw [if_pos rfl]
        by_cases hs : c' = c ∧ r' = root
        · obtain ⟨rfl, rfl⟩ := hs
          rw [learnE_same hb hf] at hE
          injection hE with e1 e2
          subst e1 e2
          rw [if_pos rfl]
          refine ⟨M, rfl, h.up, fun k => ?_⟩
          rw [foundD, ← h.eq]
          by_cases hk : d' = k
          · rw [if_pos hk, ← hk, hf]
          · rw [if_neg hk]
        · rw [learnE_fork hb hf hs] at hE
          injection hE with e1 e2
          subst e1 e2
          rw [if_neg (fun e => hs (by injection e with _ e; injection e with e1 e2; exact ⟨e1, e2⟩))]
          exact ⟨M, rfl, h⟩
      · replace hf : foundD lr d = none := by
          rw [hf]
          show (if d' = d then _ else _) = _
          rw [if_neg hd]
        show ∃ M', (if d' = d then _ else _) = _ ∧ _
        rw [if_neg hd]
        rw [learnE_new hb hf] at hE
        injection hE with e1 e2
        subst e1 e2
        exact ⟨_, rfl, ins _ (fun k => rfl) hf⟩
theorem rlearn_len {M M' : List Dy} {V : Bool} {d c E : Int} {r : ByteArray} (h : rlearnE M V d c r = (E, M')) : M'.length ≤ M.length + 1 := by
  have hi : (insD M (d, c, r)).length = M.length + 1 := by
    rw [insD_eq, List.length_append, List.length_cons, List.length_take, List.length_drop]
    have := cntD_le M d
    show min (cntD M d) M.length + (M.length - cntD M d + 1) = _
    omega
  unfold rlearnE at h
  split at h
  · injection h with _ h; rw [← h]; omega
  · split at h
    · injection h with _ h; rw [← h]; omega
    · split at h
      · split at h
        · split at h
          · injection h with _ h; rw [← h]; omega
          · injection h with _ h; rw [← h]; omega
        · injection h with _ h; rw [← h]; omega
      · injection h with _ h; rw [← h]; omega
/-- What the reference's Was answers. -/
theorem SameR.was {lr M : List Dy} (h : SameR lr M) (d : Int) (p : Pf) : wasE lr d p = wasE M d p := was_same h.eq d p
theorem foundD_of_mem {M : List Dy} (h : upD M) {y : Dy} (hy : y ∈ M) : foundD M y.1 = some y.2 := by
  induction M with
  | nil => cases hy
  | cons z M ih =>
    obtain ⟨h1, h2⟩ := List.pairwise_cons.1 h
    obtain ⟨d, c, r⟩ := z
    rw [foundD]
    rcases List.mem_cons.1 hy with rfl | hy
    · rw [if_pos rfl]
    · rw [if_neg (Int.ne_of_lt (h1 y hy)), ih h2 hy]
theorem foundD_mem {M : List Dy} {k : Int} {v : Int × ByteArray} (h : foundD M k = some v) : (k, v) ∈ M := by
  induction M with
  | nil => cases h
  | cons z M ih =>
    obtain ⟨d, c, r⟩ := z
    rw [foundD] at h
    by_cases e : d = k
    · rw [if_pos e] at h
      injection h with h
      rw [← h, e]
      exact List.mem_cons_self ..
    · rw [if_neg e] at h
      exact List.mem_cons_of_mem _ (ih h)
/-- The days that both know are the same, in the same order. -/
theorem SameR.days {lr M : List Dy} (h : SameR lr M) : daysS lr = M.map fun y => y.1 := by
  have hs : (daysS lr).Pairwise (fun a b => a < b) := by
    refine List.pairwise_iff_getElem.2 fun i j hi hj hij => ?_
    have step : ∀ n, ∀ hn : i + n + 1 < (daysS lr).length, (daysS lr)[i] < (daysS lr)[i + n + 1] := fun n => by
      induction n with
      | zero => exact fun hn => daysS_up lr hn
      | succ n ih => exact fun hn => Int.lt_trans (ih (by omega)) (daysS_up lr (i := i + n + 1) hn)
    have h1 := step (j - i - 1) (by omega)
    have e : i + (j - i - 1) + 1 = j := by omega
    simpa only [e] using h1
  have hm : (M.map fun y => y.1).Pairwise (fun a b => a < b) := List.pairwise_map.2 h.up
  have hp : (daysS lr).Perm (M.map fun y => y.1) := by
    refine (List.perm_ext_iff_of_nodup (hs.imp fun h => Int.ne_of_lt h) (hm.imp fun h => Int.ne_of_lt h)).2 fun x => ?_
    rw [daysS_mem, h.eq, Option.isSome_iff_exists, List.mem_map]
    constructor
    · rintro ⟨v, hv⟩
      exact ⟨(x, v), foundD_mem hv, rfl⟩
    · rintro ⟨y, hy, rfl⟩
      exact ⟨y.2, foundD_of_mem h.up hy⟩
  exact hp.eq_of_pairwise (fun a b _ _ h1 h2 => absurd (Int.lt_trans h1 h2) (Int.lt_irrefl _)) hs hm
end Go.Proofs.YtobhpeockinnjaaGreatDoor
/- The reference's reader in memory; appends of its rows. No conditions but those that each theorem states. -/
namespace Go.Proofs.YtobhpeockinnjaaGreatDoor
open Go Go.RowKit Go.Sort Go.Maps
theorem lnInfo : (Tryz.prog.info? 97).map (fun i => (i.zero, i.size, i.bytes)) = some (some (.agg #[.int .i64 0, .int .i64 0, .string ⟨#[]⟩]), 3, 32) := by kernel_rfl
def lnL (x : Dy) : List Value := [.int .i64 x.1, .int .i64 x.2.1, .string x.2.2]
/-- Rows of days in memory. -/
structure Dys (w : World) (B : Nat) (A : Option Addr) (l : List Dy) : Prop where
  at_ : 0 < l.length → ∃ b off, A = some ⟨b, off, none⟩ ∧ b < B ∧ ∀ (j : Nat) (x : Dy), l[j]? = some x → ∀ (i : Nat) (u : Value), (lnL x)[i]? = some u → w.cell? ⟨b, off + j * 3 + i, none⟩ = some u
theorem Dys.nil (w : World) (B : Nat) (A : Option Addr) : Dys w B A [] := ⟨fun h => by simp at h⟩
theorem Dys.below {w w' : World} {B : Nat} {A : Option Addr} {l : List Dy} (h : Dys w B A l) (hb : Below B w w') : Dys w' B A l :=
  ⟨fun h0 => by
    obtain ⟨b, off, e, hlt, hc⟩ := h.at_ h0
    exact ⟨b, off, e, hlt, fun j x hj i u hu => (hb.cell (p := ⟨b, off + j * 3 + i, none⟩) hlt).trans (hc j x hj i u hu)⟩⟩
theorem Dys.more {w : World} {B B' : Nat} {A : Option Addr} {l : List Dy} (h : Dys w B A l) (hB : B ≤ B') : Dys w B' A l :=
  ⟨fun h0 => by
    obtain ⟨b, off, e, hlt, hc⟩ := h.at_ h0
    exact ⟨b, off, e, by omega, hc⟩⟩
theorem Dys.keep {w w' : World} {A : Option Addr} {l : List Dy} (h : Dys w w.heap.size A l) (hb : Below w.heap.size w w') : Dys w' w'.heap.size A l := (h.below hb).more hb.size
theorem Dys.some {w : World} {B : Nat} {A : Option Addr} {l : List Dy} (h : Dys w B A l) {k : Nat} (hk : k < l.length) : ∃ b off, A = some ⟨b, off, none⟩ := by
  obtain ⟨b, off, e, _⟩ := h.at_ (by omega)
  exact ⟨b, off, e⟩
theorem Dys.cells {w : World} {B b off : Nat} {l : List Dy} (h : Dys w B (.some ⟨b, off, none⟩) l) {k : Nat} (hk : k < l.length) (x : Dy) (hx : l[k] = x) :
    w.cell? ⟨b, off + k * 3, none⟩ = .some (.int .i64 x.1) ∧ w.cell? ⟨b, off + k * 3 + 1, none⟩ = .some (.int .i64 x.2.1) ∧ w.cell? ⟨b, off + k * 3 + 2, none⟩ = .some (.string x.2.2) := by
  obtain ⟨b', off', e, _, hc⟩ := h.at_ (by omega)
  cases e
  have := hc k x (by rw [List.getElem?_eq_getElem hk, hx])
  exact ⟨this 0 _ rfl, this 1 _ rfl, this 2 _ rfl⟩
theorem Dys.take {w : World} {B : Nat} {A : Option Addr} {l : List Dy} (h : Dys w B A l) (k : Nat) : Dys w B A (l.take k) :=
  ⟨fun h0 => by
    rw [List.length_take] at h0
    obtain ⟨b, off, e, hlt, hc⟩ := h.at_ (by omega)
    refine ⟨b, off, e, hlt, fun j x hj i u hu => ?_⟩
    rw [List.getElem?_take] at hj
    split at hj
    · exact hc j x hj i u hu
    · cases hj⟩
theorem Dys.drop {w : World} {B b off : Nat} {l : List Dy} (h : Dys w B (Option.some ⟨b, off, none⟩) l) (k : Nat) : Dys w B (Option.some ⟨b, off + k * 3, none⟩) (l.drop k) :=
  ⟨fun h0 => by
    rw [List.length_drop] at h0
    obtain ⟨b', off', e, hlt, hc⟩ := h.at_ (by omega)
    cases e
    refine ⟨b, _, rfl, hlt, fun j x hj i u hu => ?_⟩
    rw [List.getElem?_drop] at hj
    have := hc (k + j) x hj i u hu
    rw [show off + k * 3 + j * 3 + i = off + (k + j) * 3 + i by omega]
    exact this⟩
/-- Rows of the call's own, from block B on. -/
def OwnDy (w : World) (B : Nat) (v : Value) (l : List Dy) : Prop := w.ownsRow B 97 3 v l.length (l.flatMap lnL)
theorem lnL_len (l : List Dy) : (l.flatMap lnL).length = l.length * 3 := by
  induction l with
  | nil => rfl
  | cons c l ih => rw [List.flatMap_cons, List.length_append, ih, List.length_cons]; show 3 + l.length * 3 = _; omega
theorem lnL_one (l : List Dy) : ∀ u ∈ l.flatMap lnL, u.oneCell' = true := fun u hu => by
  obtain ⟨c, _, hc⟩ := List.mem_flatMap.1 hu
  simp only [lnL, List.mem_cons, List.not_mem_nil, or_false] at hc
  rcases hc with rfl | rfl | rfl <;> rfl
theorem lnL_get : ∀ (l : List Dy) (j i : Nat) (x : Dy), l[j]? = some x → i < 3 → (l.flatMap lnL)[j * 3 + i]? = (lnL x)[i]?
  | [], j, i, c, h, _ => by simp at h
  | a :: l, 0, i, c, h, hi => by
    obtain rfl : a = c := by simpa using h
    rw [List.flatMap_cons, Nat.zero_mul, Nat.zero_add, List.getElem?_append_left (by exact hi)]
  | a :: l, j + 1, i, c, h, hi => by
    have h7 : (lnL a).length = 3 := rfl
    rw [List.flatMap_cons, List.getElem?_append_right (by omega), h7, show (j + 1) * 3 + i - 3 = j * 3 + i by omega]
    exact lnL_get l j i c (by simpa using h) hi
theorem OwnDy.below {w w' : World} {B : Nat} {v : Value} {l : List Dy} (h : OwnDy w B v l) (hb : Below w.heap.size w w') : OwnDy w' B v l := own_below h hb
theorem OwnDy.dys {w : World} {B : Nat} {v : Value} {l : List Dy} (h : OwnDy w B v l) : ∃ A c, v = .slice A l.length c ∧ l.length ≤ c ∧ Dys w w.heap.size A l := by
  rcases h.2 with ⟨rfl, h0⟩ | ⟨g, cap, cur, rfl, hB, hg, hc, _, hsz, hx⟩
  · obtain rfl := List.length_eq_zero_iff.1 h0
    exact ⟨none, 0, rfl, Nat.le_refl _, Dys.nil _ _ _⟩
  · refine ⟨_, cap, rfl, hc, ⟨fun _ => ⟨g, 0, rfl, lt_of_block hg, fun j x hj i u hu => ?_⟩⟩⟩
    have hi : i < 3 := (List.getElem?_eq_some_iff.1 hu).1
    rw [Nat.zero_add, cell_of_row _ _ _ _ _ (0, 0) hg, ← Array.getElem?_toList]
    have h1 : (cur.toList.take (l.length * 3))[j * 3 + i]? = some u := by
      rw [hx, lnL_get l j i x hj hi]
      exact hu
    rw [List.getElem?_take] at h1
    split at h1
    · exact h1
    · cases h1
theorem OwnDy.lit (w : World) (B : Nat) (hB : B ≤ w.heap.size) (l : List Dy) (n : Nat) (hn : l.length = n) (hm : n ≤ 1099511627776) (cs : Array Value) (h : cs.toList = l.flatMap lnL) : OwnDy (w.alloc (.cells cs 97)) B (.slice (some ⟨w.heap.size, 0, none⟩) n n) l := by
  subst hn
  have h1 : cs.size = l.length * 3 := by rw [← Array.length_toList, h, lnL_len]
  have h2 := World.ownsRow_lit (e := 97) (size := 3) w cs l.length hB (by unfold maxLen; omega) h1
  unfold OwnDy
  rw [← h]
  exact h2
/-- Cells of rows in a row, or none. -/
def SrcD (w : World) (A : Option Addr) (l : List Dy) : Prop := l = [] ∨ ∃ b off, A = some ⟨b, off, none⟩ ∧ ∀ (j : Nat) u, (l.flatMap lnL)[j]? = some u → w.cell? ⟨b, off + j, none⟩ = some u
theorem Dys.src {w : World} {B : Nat} {A : Option Addr} {l : List Dy} (h : Dys w B A l) : SrcD w A l := by
  rcases Nat.eq_zero_or_pos l.length with h0 | h0
  · exact Or.inl (List.length_eq_zero_iff.1 h0)
  · obtain ⟨b, off, rfl, hb, hc⟩ := h.at_ h0
    refine Or.inr ⟨b, off, rfl, fun j u hu => ?_⟩
    have hjl : j < l.length * 3 := by
      have := (List.getElem?_eq_some_iff.1 hu).1
      rw [lnL_len] at this
      exact this
    have hd : j / 3 < l.length := by omega
    have hm : j % 3 < 3 := Nat.mod_lt _ (by omega)
    have hj : j = j / 3 * 3 + j % 3 := by omega
    rw [hj, lnL_get l _ _ _ (List.getElem?_eq_getElem hd) hm] at hu
    have := hc (j / 3) _ (List.getElem?_eq_getElem hd) (j % 3) u hu
    rw [hj, show off + (j / 3 * 3 + j % 3) = off + j / 3 * 3 + j % 3 by omega]
    exact this
theorem src_dropD {w : World} {B b off : Nat} {l : List Dy} (h : Dys w B (some ⟨b, off, none⟩) l) (c k : Nat) (hc : l.length ≤ c) : SrcD w (if c = k then some ⟨b, off, none⟩ else some ⟨b, off + k * 3, none⟩) (l.drop k) := by
  by_cases e : c = k
  · exact Or.inl (List.drop_eq_nil_iff.2 (by omega))
  · rw [if_neg e]
    exact (h.drop k).src
/-- An append of a slice of rows. -/
theorem wp_dy {w : World} {o : Oper} {a : Act} {K : Act → World → Prop} {Q : Exit → Act → World → Prop} (sl x : Operand)
    (ho : o.op = .call { callee := .builtin .append, args := #[sl, x], argTypes := #[89, 89] })
    (B : Nat) (v : Value) (l m : List Dy) (hs : a.eval sl = v) (hO : OwnDy w B v l) (A : Option Addr) (n cap : Nat) (hx : a.eval x = .slice A n cap) (hn : m.length = n) (hsrc : SrcD w A m)
    (hlen : (l.length + n) * 32 ≤ 140737488355328) (hB : B ≤ w.heap.size)
    (h : ∀ v' w', OwnDy w' B v' (l ++ m) → Below B w w' → w.grownBy w' v.ownBlock → K (a.put o.dst v') w') : o.wp Tryz.prog a w K Q := by
  subst hn
  obtain ⟨i, h1, h2, h3, h4⟩ := info_parts lnInfo
  have hrun0 : ∀ c, (Builtin.append_ #[89, 89] o.type #[v, .slice none 0 c]).run Tryz.prog w = .ok v w := fun c => run_append_none (P := Tryz.prog) B 89 o.type 97 i 3 Tryz.underlying89 h1 v l.length _ hO c
  have key : ∃ v' w', (Builtin.append_ #[89, 89] o.type #[v, .slice A m.length cap]).run Tryz.prog w = .ok v' w' ∧ OwnDy w' B v' (l ++ m) ∧ Below B w w' ∧ w.grownBy w' v.ownBlock := by
    have hnil : m = [] → ∃ v' w', (Builtin.append_ #[89, 89] o.type #[v, .slice none 0 cap]).run Tryz.prog w = .ok v' w' ∧ OwnDy w' B v' (l ++ m) ∧ Below B w w' ∧ w.grownBy w' v.ownBlock := fun h0 => by
      subst h0
      exact ⟨v, w, hrun0 cap, by rw [List.append_nil]; exact hO, Below.refl _ _, ⟨rfl, rfl, rfl, Nat.le_refl _, fun _ _ _ => rfl⟩⟩
    cases A with
    | none =>
      have h0 : m = [] := by
        rcases hsrc with h0 | ⟨_, _, h0, _⟩
        · exact h0
        · cases h0
      rw [show m.length = 0 by rw [h0]; rfl]
      exact hnil h0
    | some ad =>
      obtain ⟨v', w', hr, h5, h6, _, _⟩ := run_append_own_at (P := Tryz.prog) w B 89 o.type 97 i _ 3 32 Tryz.underlying89 h1 h2 h3 h4 rfl (by omega) v l.length _ hO ad m.length cap _ (lnL_len m) (fun j u hj => by
        rcases hsrc with h0 | ⟨b, off, h0, hc⟩
        · rw [h0] at hj; cases hj
        · cases h0
          rw [addr_off]
          exact hc j u hj) (lnL_one m) (by unfold maxLen; omega) (by omega) hB
      refine ⟨v', w', hr, ?_, (Below.refl B w).grown h6 hB fun k hk => (World.ownsRow.lt hO k hk).1, h6⟩
      unfold OwnDy
      rw [List.length_append, List.flatMap_append]
      exact h5
  obtain ⟨v', w', hrun, h5, h6, h7⟩ := key
  unfold Oper.wp execOp
  simp only [ho, resolve, invoke, builtin, Sem.run_bind, Sem.run_pure, Result.andThen_ok, List.map_toArray, List.map_cons, List.map_nil, hs, hx, hrun]
  exact h v' w' h5 h6 h7
theorem step_dy {w : World} {ops : Array Oper} {rest : List Oper} {o : Oper} {a : Act} {Q : Exit → Act → World → Prop} (hgd : Region.wanted o (yielded ops a.tmps) = true) (sl x : Operand)
    (ho : o.op = .call { callee := .builtin .append, args := #[sl, x], argTypes := #[89, 89] })
    (B : Nat) (v : Value) (l m : List Dy) (hs : a.eval sl = v) (hO : OwnDy w B v l) (A : Option Addr) (n cap : Nat) (hx : a.eval x = .slice A n cap) (hn : m.length = n) (hsrc : SrcD w A m)
    (hlen : (l.length + n) * 32 ≤ 140737488355328) (hB : B ≤ w.heap.size)
    (h : ∀ v' w', OwnDy w' B v' (l ++ m) → Below B w w' → w.grownBy w' v.ownBlock → wpList Tryz.prog ops Q rest (a.put o.dst v') w') : wpList Tryz.prog ops Q (o :: rest) a w :=
  wpList_wanted hgd fun _ hK => wp_dy sl x ho B v l m hs hO A n cap hx hn hsrc hlen hB fun v' w' h1 h2 h3 => hK _ _ (h v' w' h1 h2 h3)
/-- The reference's reader: its block bears its key and its list. -/
structure RR (br : Nat) (key : ByteArray) (M : List Dy) (A : Option Addr) (n c : Nat) (X : World) : Prop where
  row : X.heap[br]? = some (.cells #[.string key, .slice A n c] 91 (0, 0))
  lis : Dys X X.heap.size A M
  len : M.length = n
  cap : n ≤ c
  sl : (A = none ∧ c = 0) ∨ ∃ b off, A = some ⟨b, off, none⟩
theorem RR.below {br : Nat} {key : ByteArray} {M : List Dy} {A : Option Addr} {n c : Nat} {X X' : World} (h : RR br key M A n c X) (hb : Below X.heap.size X X') : RR br key M A n c X' := ⟨iNext h.row hb, h.lis.keep hb, h.len, h.cap, h.sl⟩
/-- A block without cells may change. -/
theorem Dys.offm {X X' : World} {A : Option Addr} {l : List Dy} {m : Nat} (h : Dys X X.heap.size A l) (hm : ∀ off, X.cell? ⟨m, off, none⟩ = none) (ho : Off [m] X X') : Dys X' X'.heap.size A l :=
  ⟨fun h0 => by
    obtain ⟨b, off, e, hlt, hc⟩ := h.at_ h0
    have hbm : b ≠ m := fun e2 => by
      obtain ⟨x, hx⟩ : ∃ x, l[0]? = Option.some x := ⟨_, List.getElem?_eq_getElem h0⟩
      have := hc 0 x hx 0 _ rfl
      rw [e2, hm] at this
      cases this
    refine ⟨b, off, e, Nat.lt_of_lt_of_le hlt ho.size, fun j x hj i u hu => ?_⟩
    have hb1 : X'.heap[b]? = X.heap[b]? := ho.block b hlt (by simpa using hbm)
    exact (World.cell?_of_block (a := ⟨b, off + j * 3 + i, none⟩) hb1).trans (hc j x hj i u hu)⟩
theorem RR.offm {br : Nat} {key : ByteArray} {M : List Dy} {A : Option Addr} {n c : Nat} {X X' : World} {m : Nat} (h : RR br key M A n c X) (hm : ∀ off, X.cell? ⟨m, off, none⟩ = none) (ho : Off [m] X X') (hne : br ≠ m) : RR br key M A n c X' := ⟨ho.row h.row (by simpa using hne), h.lis.offm hm ho, h.len, h.cap, h.sl⟩
theorem OwnDy.sl {w : World} {B : Nat} {v : Value} {l : List Dy} (h : OwnDy w B v l) (h0 : 0 < l.length) : ∃ g c, v = .slice (Option.some ⟨g, 0, none⟩) l.length c ∧ l.length ≤ c ∧ B ≤ g ∧ Dys w w.heap.size (Option.some ⟨g, 0, none⟩) l := by
  obtain ⟨A, c, hv, hc, hd⟩ := h.dys
  have h2 := h
  unfold OwnDy at h2
  rcases h2.2 with ⟨_, h1⟩ | ⟨g, cap, cur, hv2, hB, hg, _⟩
  · omega
  · rw [hv] at hv2
    injection hv2 with e1 e2 e3
    subst e1
    exact ⟨g, c, hv, hc, hB, hd⟩
/-- A cell that bears neither number nor string. -/
theorem Dys.set {w : World} {B : Nat} {A : Option Addr} {l : List Dy} (h : Dys w B A l) {p : Addr} {u : Value} (hc : w.cell? p = Option.some u) (h1 : ∀ x, u ≠ .int .i64 x) (h2 : ∀ s, u ≠ .string s) (v : Value) : Dys (w.setCell p v) B A l :=
  ⟨fun h0 => by
    obtain ⟨b, off, e, hb, hcs⟩ := h.at_ h0
    refine ⟨b, off, e, hb, fun j x hj i u' hu => (World.cell?_setCell_other _ _ _ _ fun e2 => ?_).trans (hcs j x hj i u' hu)⟩
    have h3 := hcs j x hj i u' hu
    rw [← e2, hc] at h3
    injection h3 with h3
    have hm := List.mem_of_getElem? hu
    rw [← h3] at hm
    simp only [lnL, List.mem_cons, List.not_mem_nil, or_false] at hm
    rcases hm with hm | hm | hm
    · exact h1 _ hm
    · exact h1 _ hm
    · exact h2 _ hm⟩
theorem foundD_at {M : List Dy} {d : Int} : ∀ {k : Nat} {y : Dy}, (∀ (j : Nat) (x : Dy), j < k → M[j]? = some x → x.1 ≠ d) → M[k]? = some y → y.1 = d → foundD M d = some y.2 := by
  induction M with
  | nil => intro k y _ h _; cases h
  | cons z M ih =>
    intro k y h hk hd
    obtain ⟨d', c', r'⟩ := z
    cases k with
    | zero => cases hk; rw [foundD, if_pos hd]
    | succ k =>
      rw [foundD, if_neg (h 0 (d', c', r') (by omega) rfl)]
      exact ih (k := k) (fun j x hj hx => h (j + 1) x (by omega) (by simpa using hx)) (by simpa using hk) hd
theorem foundD_all {M : List Dy} {d : Int} (h : ∀ (j : Nat) (x : Dy), M[j]? = some x → x.1 ≠ d) : foundD M d = none := by
  induction M with
  | nil => rfl
  | cons z M ih =>
    obtain ⟨d', c', r'⟩ := z
    rw [foundD, if_neg (h 0 (d', c', r') rfl)]
    exact ih fun j x hx => h (j + 1) x (by simpa using hx)
end Go.Proofs.YtobhpeockinnjaaGreatDoor

