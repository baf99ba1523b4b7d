/- Walks and laws of this seat, several texts in one: P34, RegA, RegT, P37. No conditions but those that each theorem states. -/
import Derived.Test.YtobhpeockinnjaaGreatDoorHP1
import Derived.Below
import Derived.Deep.CutRange
/- The law ProofOthers in plain Lean. No conditions but those that each theorem states. -/
namespace Go.Proofs.YtobhpeockinnjaaGreatDoor
open Go Go.RowKit Go.Sort Go.Maps
/-- A proof with another item. -/
def altP (p : Pf) (q : Dg.It) : Pf := ⟨p.count, p.idx, q, p.path⟩
theorem others_at {l : List Dg.It} (hv : Dg.validC l = true) (h500 : ∀ x ∈ l, ∀ s ∈ Dg.fieldsI x, s.size ≤ 500) {k : Nat} (hk : k < l.length) (hg : l[k].gone = false) {p : Pf} (hit : p.it = Dg.bareI l[k]) (hc : p.count = ((Dg.leavesC l).length : Nat)) (hi : p.idx = ((idxN l k : Nat) : Int)) {q : Dg.It} (hz : ∀ s ∈ leafS q, s.size ≤ 10000) (hne : q ≠ p.it)
    (h : checkP (Dg.root (Dg.leavesC l)) (altP p q) = true) : Dg.Shown (Dg.texts (Dg.leavesC l) ++ Dg.pathTexts (Dg.leavesC l).length (idxN l k) (Dg.leafI q) p.path.reverse) := by
  rcases shown_at (p := altP p q) hv h500 hz hc hi hk hg rfl h with h1 | h1
  · exact absurd (h1.trans hit.symm) hne
  · exact h1
theorem others_num (root : ByteArray) (p : Pf) (q : Dg.It) (s : ByteArray) (hs : s ≠ ⟨#[]⟩) : checkP root (altP p ⟨q.kind, q.id, q.parent, s, q.north, q.south, q.gone⟩) = false :=
  checkP_num (decide_eq_false hs)
theorem others_gone (root : ByteArray) (p : Pf) (q : Dg.It) : checkP root (altP p ⟨q.kind, q.id, q.parent, q.number, q.north, q.south, true⟩) = false := checkP_gone rfl
/-- The three changed items. -/
def othI (x : Dg.It) (o : ByteArray) : List Dg.It := [⟨x.kind, x.id, x.parent, x.number, o, x.south, x.gone⟩, ⟨x.kind, x.id, x.parent, x.number, x.north, o, x.gone⟩, ⟨3 - x.kind, x.id, x.parent, x.number, x.north, x.south, x.gone⟩]
theorem othI_size {x : Dg.It} {o : ByteArray} (h : ∀ s ∈ leafS x, s.size ≤ 500) (ho : o.size ≤ 300) : ∀ q ∈ othI x o, ∀ s ∈ leafS q, s.size ≤ 10000 := fun q hq s hs => by
  unfold othI at hq
  simp only [List.mem_cons, List.not_mem_nil, or_false] at hq
  have hk : ∀ y : Dg.It, (kindS y).size ≤ 10000 := fun y => by unfold kindS; split <;> decide
  unfold leafS at h
  simp only [List.mem_cons, List.not_mem_nil, or_false, forall_eq_or_imp, forall_eq] at h
  obtain ⟨_, h1, h2, h3, h4⟩ := h
  unfold leafS at hs
  simp only [List.mem_cons, List.not_mem_nil, or_false] at hs
  rcases hq with rfl | rfl | rfl <;> rcases hs with rfl | rfl | rfl | rfl | rfl <;> first | exact hk _ | exact Nat.le_trans h1 (by decide) | exact Nat.le_trans h2 (by decide) | exact Nat.le_trans h3 (by decide) | exact Nat.le_trans h4 (by decide) | exact Nat.le_trans ho (by decide)
end Go.Proofs.YtobhpeockinnjaaGreatDoor
/- A region in which several variables are laid, in whatever order: their blocks lie apart, and the world behind is the same. No conditions. -/
namespace Go.Proofs.YtobhpeockinnjaaGreatDoor
open Go Go.RowKit
section
variable {P : Program} {ops : Array Oper} {Q : Exit → Act → World → Prop} {md : Region.Mode} {S : World → Prop} {k : Nat}
def dstOf (ops : Array Oper) (i : Nat) : Option Tmp := (ops[i]?).bind fun o => o.dst
def allReady (md : Region.Mode) (ops : Array Oper) : Nat → Array Bool → List Nat → Bool
  | 0, _, R => R.isEmpty
  | n + 1, listed, R => !R.isEmpty && (Region.ready md ops listed == R) && R.all fun i => allReady md ops n (listed.setIfInBounds i true) (R.erase i)
def ptrAt (z : Nat) : Value := .pointer (some ⟨z, 0, none⟩)
def putA (ops : Array Oper) : Act → List Nat → Nat → Act
  | a, [], _ => a
  | a, i :: l, z => putA ops (a.put (dstOf ops i) (ptrAt z)) l (z + 1)
def allocN (C : Obj) : Nat → World → World
  | 0, w => w
  | n + 1, w => allocN C n (w.alloc C)
def setL (l : Array Bool) (i : Nat) : Array Bool := l.setIfInBounds i true
def putF (ops : Array Oper) (f : Nat → Nat) (a : Act) (i : Nat) : Act := a.put (dstOf ops i) (ptrAt (f i))
theorem allocs_aux (C : Obj) (hSC : ∀ w, S w → S (w.alloc C)) : ∀ (n : Nat) (R : List Nat) (fuel : Nat) (listed : Array Bool) (a : Act) (w : World), allReady md ops n listed R = true → S w →
    (∀ i ∈ R, ∃ o, ops[i]? = some o ∧ ∀ (a : Act) (w : World) (K : Act → World → Prop), K (a.put o.dst (ptrAt w.heap.size)) (w.alloc C) → if Region.wanted o (yielded ops a.tmps) = true then Oper.wp P o a w K Q else K (a.put o.dst undef) w) →
    (∀ s : List Nat, s.Perm R → wpAnyL P md ops Q S k fuel (s.foldl setL listed) (putA ops a s w.heap.size) (allocN C n w)) → wpAnyL P md ops Q S k (fuel + n) listed a w
  | 0, R, fuel, listed, a, w, hr, _, _, h => by
    obtain rfl : R = [] := by unfold allReady at hr; exact List.isEmpty_iff.1 hr
    exact h [] (List.Perm.refl _)
  | n + 1, R, fuel, listed, a, w, hr, hS, hstep, h => by
    unfold allReady at hr
    simp only [Bool.and_eq_true, Bool.not_eq_true', List.all_eq_true, beq_iff_eq] at hr
    obtain ⟨⟨hne, hrd⟩, hall⟩ := hr
    refine ⟨fun h0 => ?_, fun i hi => ?_⟩
    · rw [hrd] at h0
      rw [h0] at hne
      cases hne
    · rw [hrd] at hi
      obtain ⟨o, ho, hop⟩ := hstep i hi
      refine wpOp_step ho fun K' hK => hop a w K' (hK _ _ ⟨Or.inr (hSC w hS), ?_⟩)
      refine allocs_aux C hSC n (R.erase i) fuel _ _ _ (hall i hi) (hSC w hS) (fun j hj => hstep j (List.mem_of_mem_erase hj)) fun s hs => ?_
      have h1 := h (i :: s) ((hs.cons i).trans (List.perm_cons_erase hi).symm)
      have hz : (w.alloc C).heap.size = w.heap.size + 1 := by simp
      rw [hz]
      rw [List.foldl_cons] at h1
      unfold putA at h1
      rw [show dstOf ops i = o.dst by unfold dstOf; rw [ho]; rfl] at h1
      exact h1
theorem act_put_comm (a : Act) (d d' : Option Tmp) (v v' : Value) (h : d ≠ d' ∨ d = none) : (a.put d v).put d' v' = (a.put d' v').put d v := by
  cases d with
  | none => cases d' <;> rfl
  | some x =>
    cases d' with
    | none => rfl
    | some y =>
      have hxy : x ≠ y := fun e => by
        rcases h with h | h
        · exact h (by rw [e])
        · cases h
      show ({ a with tmps := (a.tmps.setIfInBounds x v).setIfInBounds y v' } : Act) = { a with tmps := (a.tmps.setIfInBounds y v').setIfInBounds x v }
      rw [Array.setIfInBounds_comm _ _ hxy]
theorem putA_eq : ∀ (s : List Nat) (a : Act) (z : Nat), s.Nodup → putA ops a s z = s.foldl (putF ops fun i => z + s.idxOf i) a
  | [], _, _, _ => rfl
  | i :: s, a, z, hn => by
    obtain ⟨h1, h2⟩ := List.nodup_cons.1 hn
    unfold putA
    rw [putA_eq s _ _ h2, List.foldl_cons]
    have e1 : putF ops (fun j => z + (i :: s).idxOf j) a i = a.put (dstOf ops i) (ptrAt z) := by
      show a.put (dstOf ops i) (ptrAt (z + (i :: s).idxOf i)) = _
      rw [List.idxOf_cons_self]
      rfl
    rw [e1]
    have : ∀ (t : List Nat) (b : Act), (∀ j ∈ t, j ∈ s) → t.foldl (putF ops fun j => z + 1 + s.idxOf j) b = t.foldl (putF ops fun j => z + (i :: s).idxOf j) b := by
      intro t
      induction t with
      | nil => intro b _; rfl
      | cons j t ih =>
        intro b hb
        rw [List.foldl_cons, List.foldl_cons]
        have hj : i ≠ j := fun e => h1 (e ▸ hb j (List.mem_cons_self ..))
        have e2 : putF ops (fun j => z + 1 + s.idxOf j) b j = putF ops (fun j => z + (i :: s).idxOf j) b j := by
          show b.put (dstOf ops j) (ptrAt (z + 1 + s.idxOf j)) = b.put (dstOf ops j) (ptrAt (z + (i :: s).idxOf j))
          rw [List.idxOf_cons, beq_eq_false_iff_ne.2 hj, cond_false]
          rw [show z + 1 + s.idxOf j = z + (s.idxOf j + 1) by omega]
        rw [e2]
        exact ih _ fun x hx => hb x (List.mem_cons_of_mem _ hx)
    exact this s _ fun j hj => hj
/-- Allocations come up in whatever order: the blocks lie apart, behind what was there. -/
theorem wpAnyL_allocs (C : Obj) (R : List Nat) {fuel : Nat} {listed : Array Bool} {a : Act} {w : World} (hSC : ∀ w, S w → S (w.alloc C)) (hr : allReady md ops R.length listed R = true) (hnd : R.Nodup)
    (hdst : ∀ i ∈ R, ∀ j ∈ R, i ≠ j → dstOf ops i ≠ dstOf ops j) (hS : S w)
    (hstep : ∀ i ∈ R, ∃ o, ops[i]? = some o ∧ ∀ (a : Act) (w : World) (K : Act → World → Prop), K (a.put o.dst (ptrAt w.heap.size)) (w.alloc C) → if Region.wanted o (yielded ops a.tmps) = true then Oper.wp P o a w K Q else K (a.put o.dst undef) w)
    (h : ∀ f : Nat → Nat, (∀ i ∈ R, w.heap.size ≤ f i ∧ f i < w.heap.size + R.length) → (∀ i ∈ R, ∀ j ∈ R, f i = f j → i = j) → wpAnyL P md ops Q S k fuel (R.foldl setL listed) (R.foldl (putF ops f) a) (allocN C R.length w)) : wpAnyL P md ops Q S k (fuel + R.length) listed a w := by
  refine allocs_aux C hSC R.length R fuel listed a w hr hS hstep fun s hs => ?_
  have hsn : s.Nodup := hs.nodup_iff.2 hnd
  rw [putA_eq s a _ hsn]
  have e1 : s.foldl setL listed = R.foldl setL listed := hs.foldl_eq' (fun x _ y _ z => by
    unfold setL
    by_cases e : x = y
    · rw [e]
    · rw [Array.setIfInBounds_comm _ _ e]) _
  have e2 : s.foldl (putF ops fun i => w.heap.size + s.idxOf i) a = R.foldl (putF ops fun i => w.heap.size + s.idxOf i) a := hs.foldl_eq' (fun x hx y hy z => by
    unfold putF
    by_cases e : x = y
    · rw [e]
    · exact (act_put_comm z _ _ _ _ (Or.inl (hdst x (hs.mem_iff.1 hx) y (hs.mem_iff.1 hy) e)))) _
  rw [e1, e2]
  refine h _ (fun i hi => ?_) fun i hi j hj e => ?_
  · have := List.idxOf_lt_length_of_mem (hs.mem_iff.2 hi)
    rw [hs.length_eq] at this
    exact ⟨Nat.le_add_right _ _, Nat.add_lt_add_left this _⟩
  · have h1 : s.idxOf i = s.idxOf j := Nat.add_left_cancel e
    have hi' := List.idxOf_lt_length_of_mem (hs.mem_iff.2 hi)
    have hj' := List.idxOf_lt_length_of_mem (hs.mem_iff.2 hj)
    rw [← List.getElem_idxOf hi', ← List.getElem_idxOf hj']
    simp only [h1]
end
end Go.Proofs.YtobhpeockinnjaaGreatDoor
/- Two operations that may come up. No conditions but those that each theorem states. -/
namespace Go.Proofs.YtobhpeockinnjaaGreatDoor
open Go Go.RowKit
section
variable {P : Program} {ops : Array Oper} {Q : Exit → Act → World → Prop} {md : Region.Mode} {S : World → Prop} {k : Nat}
theorem wpAnyL_duo {i j : Nat} {oi oj : Oper} {fuel : Nat} {listed : Array Bool} {a : Act} {w : World} (hr : Region.ready md ops listed = [i, j]) (hoi : ops[i]? = some oi) (hoj : ops[j]? = some oj)
    (h1 : ∀ K' : Act → World → Prop, Hid (∀ a w, SL S k (listed.setIfInBounds i true) w → wpAnyL P md ops Q S k fuel (listed.setIfInBounds i true) a w → K' a w) → if Region.wanted oi (yielded ops a.tmps) = true then Oper.wp P oi a w K' Q else K' (a.put oi.dst undef) w)
    (h2 : ∀ K' : Act → World → Prop, Hid (∀ a w, SL S k (listed.setIfInBounds j true) w → wpAnyL P md ops Q S k fuel (listed.setIfInBounds j true) a w → K' a w) → if Region.wanted oj (yielded ops a.tmps) = true then Oper.wp P oj a w K' Q else K' (a.put oj.dst undef) w) : wpAnyL P md ops Q S k (fuel + 1) listed a w :=
  ⟨fun h0 => absurd (hr.symm.trans h0) (by simp), fun x hx => by
    rw [hr] at hx
    rcases List.mem_cons.1 hx with rfl | hx
    · exact wpOp_step hoi (fun K' hK => h1 K' (fun a w hS hW => hK a w ⟨hS, hW⟩))
    · obtain rfl := List.mem_singleton.1 hx
      exact wpOp_step hoj (fun K' hK => h2 K' (fun a w hS hW => hK a w ⟨hS, hW⟩))⟩
end
end Go.Proofs.YtobhpeockinnjaaGreatDoor
/- The law ProofOthers. No conditions but those that each theorem states. -/
namespace Go.Proofs.YtobhpeockinnjaaGreatDoor
open Go Go.RowKit Go.Sort Go.Maps
attribute [local go_sem] Oper.semAt_some
theorem allocN_below {a : World} (C : Obj) : ∀ (n : Nat) (w : World), Below a.heap.size a w → Below a.heap.size a (allocN C n w)
  | 0, _, h => h
  | n + 1, w, h => allocN_below C n (w.alloc C) (h.alloc h.size C)
theorem allocN_size (C : Obj) : ∀ (n : Nat) (w : World), (allocN C n w).heap.size = w.heap.size + n
  | 0, _ => rfl
  | n + 1, w => by
    have h1 : (w.alloc C).heap.size = w.heap.size + 1 := by simp
    show (allocN C n (w.alloc C)).heap.size = _
    rw [allocN_size C n, h1]; omega
theorem allocN_row (C : Obj) : ∀ (n : Nat) (w : World) (j : Nat), w.heap.size ≤ j → j < w.heap.size + n → (allocN C n w).heap[j]? = some C
  | 0, w, j, h1, h2 => by omega
  | n + 1, w, j, h1, h2 => by
    have h3 : (w.alloc C).heap.size = w.heap.size + 1 := by simp
    show (allocN C n (w.alloc C)).heap[j]? = _
    by_cases e : j = w.heap.size
    · rw [e, (allocN_below C n (w.alloc C) (Below.refl (w.alloc C).heap.size _)).block w.heap.size (by omega)]
      exact heap_alloc_new w C
    · exact allocN_row C n (w.alloc C) j (by omega) (by omega)
theorem set10_off {X : World} {g k : Nat} (h : k ≠ g) (v0 v1 v2 v3 v4 v5 v6 v7 v8 v9 : Value) : (set10 X g v0 v1 v2 v3 v4 v5 v6 v7 v8 v9).heap[k]? = X.heap[k]? := by
  unfold set10
  rw [setCell_off h, setCell_off h, setCell_off h, setCell_off h, setCell_off h, setCell_off h, setCell_off h, setCell_off h, setCell_off h, setCell_off h]
/-- What the law holds: the code in its variable, the items, the tables, the leaves. -/
structure TO (w0 : World) (A : Option Addr) (n c : Nat) (l : List Dg.It) (A7 : Option Addr) (L : List ByteArray) (X : World) : Prop where
  r1 : X.heap[w0.heap.size]? = some (.cells #[.slice A n c] 24 (0, 0))
  up : Below w0.heap.size w0 X
  its : Its X X.heap.size A l
  env : Env X
  lis : Strs X X.heap.size A7 L
theorem TO.below {w0 : World} {A : Option Addr} {n c : Nat} {l : List Dg.It} {A7 : Option Addr} {L : List ByteArray} {X X' : World} (h : TO w0 A n c l A7 L X) (hb : Below X.heap.size X X') : TO w0 A n c l A7 L X' :=
  ⟨iNext h.r1 hb, bnext h.up hb, h.its.keep hb, h.env.next hb, keepS h.lis hb⟩
theorem TO.leaves {w0 : World} {A : Option Addr} {n c : Nat} {l : List Dg.It} {A7 : Option Addr} {L : List ByteArray} {X X' : World} (h : TO w0 A n c l A7 L X) (hb : Below X.heap.size X X') {A8 : Option Addr} {M : List ByteArray} (hM : Strs X' X'.heap.size A8 M) : TO w0 A n c l A8 M X' :=
  ⟨iNext h.r1 hb, bnext h.up hb, h.its.keep hb, h.env.next hb, hM⟩
theorem oth_cells {X : World} {lb : Nat} {p : Pf} {A9 : Option Addr} {pn c9 : Nat} {other : ByteArray} (h : X.heap[lb]? = some (.cells #[.int .i64 p.count, .int .i64 p.idx, .int .i64 p.it.kind, .string p.it.id, .string p.it.parent, .string p.it.number, .string other, .string p.it.south, .bool p.it.gone, .slice A9 pn c9, .int .i64 p.count, .int .i64 p.idx, .int .i64 p.it.kind, .string p.it.id, .string p.it.parent, .string p.it.number, .string p.it.north, .string other, .bool p.it.gone, .slice A9 pn c9, .int .i64 p.count, .int .i64 p.idx, .int .i64 (3 - p.it.kind), .string p.it.id, .string p.it.parent, .string p.it.number, .string p.it.north, .string p.it.south, .bool p.it.gone, .slice A9 pn c9] 29 (0, 0))) {j : Nat} {q : Dg.It} (hq : (othI p.it other)[j]? = some q) :
    X.cell? ⟨lb, j * 10, none⟩ = some (.int .i64 p.count) ∧ X.cell? ⟨lb, j * 10 + 1, none⟩ = some (.int .i64 p.idx) ∧ X.cell? ⟨lb, j * 10 + 2, none⟩ = some (.int .i64 q.kind) ∧ X.cell? ⟨lb, j * 10 + 3, none⟩ = some (.string q.id) ∧ X.cell? ⟨lb, j * 10 + 4, none⟩ = some (.string q.parent) ∧ X.cell? ⟨lb, j * 10 + 5, none⟩ = some (.string q.number) ∧ X.cell? ⟨lb, j * 10 + 6, none⟩ = some (.string q.north) ∧ X.cell? ⟨lb, j * 10 + 7, none⟩ = some (.string q.south) ∧ X.cell? ⟨lb, j * 10 + 8, none⟩ = some (.bool q.gone) ∧ X.cell? ⟨lb, j * 10 + 9, none⟩ = some (.slice A9 pn c9) := by
  match j, hq with
  | 0, hq => cases hq; refine ⟨?_, ?_, ?_, ?_, ?_, ?_, ?_, ?_, ?_, ?_⟩ <;> (rw [cell_of_row _ _ _ _ _ (0, 0) h]; rfl)
  | 1, hq => cases hq; refine ⟨?_, ?_, ?_, ?_, ?_, ?_, ?_, ?_, ?_, ?_⟩ <;> (rw [cell_of_row _ _ _ _ _ (0, 0) h]; rfl)
  | 2, hq => cases hq; refine ⟨?_, ?_, ?_, ?_, ?_, ?_, ?_, ?_, ?_, ?_⟩ <;> (rw [cell_of_row _ _ _ _ _ (0, 0) h]; rfl)
structure S30 (wb : World) (lb : Nat) (p : Pf) (A9 : Option Addr) (pn c9 : Nat) (other : ByteArray) (X : World) : Prop where
  bel : Below wb.heap.size wb X
  row : X.heap[lb]? = some (.cells #[.int .i64 p.count, .int .i64 p.idx, .int .i64 p.it.kind, .string p.it.id, .string p.it.parent, .string p.it.number, .string other, .string p.it.south, .bool p.it.gone, .slice A9 pn c9, .int .i64 p.count, .int .i64 p.idx, .int .i64 p.it.kind, .string p.it.id, .string p.it.parent, .string p.it.number, .string p.it.north, .string other, .bool p.it.gone, .slice A9 pn c9, .int .i64 p.count, .int .i64 p.idx, .int .i64 (3 - p.it.kind), .string p.it.id, .string p.it.parent, .string p.it.number, .string p.it.north, .string p.it.south, .bool p.it.gone, .slice A9 pn c9] 29 (0, 0))
theorem S30.below {wb : World} {lb : Nat} {p : Pf} {A9 : Option Addr} {pn c9 : Nat} {other : ByteArray} {X X' : World} (h : S30 wb lb p A9 pn c9 other X) (hb : Below X.heap.size X X') : S30 wb lb p A9 pn c9 other X' := ⟨bnext h.bel hb, iNext h.row hb⟩
theorem path_few9 (l : List ByteArray) (i : Nat) (h : l.length ≤ 20) (hi : i < l.length) : (Dg.path l i).length ≤ 1000 := by
  rw [Dg.path_len l.length l i rfl hi]
  have h1 := Dg.length_small l.length h i hi
  have h2 : ∀ n, n ≤ 20 → Dg.bits 5 n ≤ 1000 := by decide +kernel
  exact Nat.le_trans h1 (h2 _ h)
attribute [-go_sem] run_eql_struct in
set_option maxRecDepth 100000 in
set_option maxHeartbeats 16000000 in
theorem law_others (l : List Dg.It) (A : Option Addr) (n c : Nat) (hl : l.length = n) (hw : ∀ x ∈ l, ItW x) (hn : n ≤ 9223372036854775807) (hnc : n ≤ c) (k0 : Nat) (hk0 : k0 ≤ 255) (other : ByteArray) (hoz : other.size ≤ 9223372036854775807)
    (w : World) (he : Env w) (hI : Its w w.heap.size A l) :
    Calls Tryz.prog 9 #[.agg #[.slice A n c], .int .u8 k0, .string other] w fun e w' => e = .returned (.bool true) ∧ Below w.heap.size w w' := by
  have hmx : Tryz.prog.follows .mixedOrders = true := by kernel_rfl
  have hx1 := Below.news (Below.refl w.heap.size w) (.cells #[.slice A n c] 24)
  have hS1 : TO w A n c l none [] (w.alloc (.cells #[.slice A n c] 24)) := ⟨heap_alloc_new w _, hx1, hI.keep hx1, he.next hx1, Strs.nil _ _ _⟩
  have HL := hide hl; have HW := hide hw
  clear hl hw hI he hx1
  go_enter Tryz.func9, Tryz.ntmps9
  go_wp2_with fail
  generalize w.alloc (.cells #[.slice A n c] 24) = w1 at *
  refine (head44_of w1 hS1.env).mono ?_
  rintro e w2 ⟨rfl, hx2⟩
  have hS2 := hS1.below hx2
  clear hS1 hx2
  have hc1 := iCells0 hS2.r1
  obtain ⟨F, hF⟩ : ∃ F, fewC l 20 = F := ⟨_, rfl⟩
  go_wp2_with fail
  refine (small_of l A n c HL.out hn w2 hS2.its F hF).mono ?_
  rintro e w3 ⟨rfl, hx3⟩
  have hS3 := hS2.below hx3
  clear hS2 hx3 hc1
  cases F with
  | false =>
    clear hF
    go_wp2
    go_ret
    exact ⟨rfl, hS3.up⟩
  | true =>
    obtain ⟨n20, z20⟩ := kfew hF
    rw [HL.out] at n20
    have ZL := hide z20
    clear hF z20
    by_cases ho1 : (300 : Int) < (other.size : Int)
    · go_wp2
      go_ret
      exact ⟨rfl, hS3.up⟩
    have HOZ := hide (show other.size ≤ 300 by omega)
    clear hoz
    obtain ⟨V, hV⟩ : ∃ V, Dg.validC l = V := ⟨_, rfl⟩
    have hc1 := iCells0 hS3.r1
    go_wp2_with fail
    refine (Code.valid_of l A n c HL.out HW.out (by omega) w3 hS3.its V hV).mono ?_
    rintro e w5 ⟨rfl, hx5⟩
    have hS5 := hS3.below hx5
    clear hS3 hx5 hc1
    cases V with
    | false =>
      clear hV
      go_wp2
      go_ret
      exact ⟨rfl, hS5.up⟩
    | true =>
      have HV := hide hV
      clear hV
      have hc1 := iCells0 hS5.r1
      by_cases hn0 : n = 0
      · subst hn0
        go_wp2
        go_ret
        exact ⟨rfl, hS5.up⟩
      have hz0 : ((n : Int) == 0) = false := beq_eq_false_iff_ne.2 (by omega)
      obtain ⟨L, hL⟩ : ∃ L, Dg.leavesC l = L := ⟨_, rfl⟩
      obtain ⟨m, hm⟩ : ∃ m, L.length = m := ⟨_, rfl⟩
      obtain ⟨R, hR⟩ : ∃ R, Dg.root L = R := ⟨_, rfl⟩
      have hmn : m ≤ n := by
        rw [← hm, ← hL, ← idxN_end HV.out, ← HL.out]
        exact idxN_le _ _
      have hLz : ∀ s ∈ L, s.size ≤ 1048576 := by
        rw [← hL]
        exact leaves_small ZL.out
      have HL7 := hide hL; have HM := hide hm; have HR := hide hR; have HLZ := hide hLz
      clear hL hm hR hLz
      go_wp2_with fail
      refine (Code.leaves_of l A n c HL.out HW.out (by omega) w5 hS5.env hS5.its (few_up2 ZL.out (by decide)) L HL7.out).mono ?_
      rintro e w6 ⟨⟨A7, c7, rfl, hc7, hs7⟩, hx⟩
      rw [HM.out] at hc7 ⊢
      have hS6 : TO w A n c l A7 L w6 := hS5.leaves hx hs7
      clear hS5 hx hs7 hc1 hz0 ho1
      go_wp2_with fail
      refine (root_of m A7 c7 L R w6 HM.out HR.out hS6.env hc7 (by omega) (fun s hs => Nat.le_trans (HLZ.out s hs) (by decide)) hS6.lis).mono ?_
      rintro e w7 ⟨rfl, hx⟩
      have hS7 := hS6.below hx
      clear hS6 hx
      obtain ⟨i, hi⟩ : ∃ i, k0 % n = i := ⟨_, rfl⟩
      have hin : i < n := by rw [← hi]; exact Nat.mod_lt _ (by omega)
      have him : (k0 : Int).tmod (n : Int) = (i : Int) := by rw [← hi]; rfl
      have hwr : IntKind.i64.wrap (k0 : Int) = (k0 : Int) := IntWalk.i64_in _ (by omega)
      have hi1 : ¬ (n : Int) = 0 := by omega
      have hz : ((n : Int) == 0) = false := beq_eq_false_iff_ne.2 hi1
      go_upto_region 6 with (fail)
      have hil : i < l.length := by rw [HL.out]; exact hin
      obtain ⟨b, off, rfl⟩ := hS7.its.some hil
      obtain ⟨x, hx⟩ : ∃ x, l[i] = x := ⟨_, rfl⟩
      obtain ⟨P0, E0, hME⟩ : ∃ P E, makeE l x.id = (P, E) := ⟨_, _, rfl⟩
      have HMA := hide (make_at HV.out hil)
      have hp16 : ∀ s ∈ P0.path, s.size = 16 := by
        have h1 := HMA.out
        rw [hx, hME] at h1
        split at h1
        · injection h1 with h1 _
          rw [h1]
          intro s hs
          cases hs
        · injection h1 with h1 _
          rw [h1]
          exact fun s hs => (Dg.path_sizes (Dg.leavesOf l).length (Dg.leavesOf l) (idxN l i) rfl s hs).2
      have HME := hide hME; have HX := hide hx; have HP16 := hide hp16
      clear hME hx hp16 hi
      have hi0 : (0 : Int) ≤ (i : Int) := by omega
      have hic : (i : Int) < (n : Int) := by omega
      have HSK := hide (fun X (hX : Below w7.heap.size w7 X) => hS7.below hX)
      go_cut [10, 11] from 44 to 59 (fun v10 v11 wx => ∃ (g10 : Nat) (A9 : Option Addr) (c9 : Nat), v10 = .pointer (some ⟨g10, 0, none⟩) ∧ v11 = .int .i64 E0 ∧ wx.heap[g10]? = some (.cells #[.int .i64 P0.count, .int .i64 P0.idx, .int .i64 P0.it.kind, .string P0.it.id, .string P0.it.parent, .string P0.it.number, .string P0.it.north, .string P0.it.south, .bool P0.it.gone, .slice A9 P0.path.length c9] 29 (0, 0)) ∧ Strs wx wx.heap.size A9 P0.path ∧ P0.path.length ≤ c9 ∧ Below w7.heap.size w7 wx)
      case first =>
        refine wp_region_noPanic ?_
        refine wp_region_L (Below w7.heap.size w7) 19 hmx ?_
        have hH0 : (Below w7.heap.size w7) w7.drew := (Below.refl w7.heap.size w7).drew
        generalize w7.drew = u0 at *
        refine wpAnyL_take (i := 0) (f0 := 21) (v := ?_) rfl (by decide +kernel) (by decide +kernel) (by decide +kernel) (by decide +kernel) (by decide +kernel) (fun _ _ _ h => h) (Or.inl ⟨by rfl, ?_⟩) hH0 ?_
        rotate_left
        · intro wS hS; have c9 := iCells0 (HSK.out _ hS).r1; go_simp; (try with_reducible rfl)
        simp only [Act.put, List.getElem_toArray, List.getElem_cons_zero, List.setIfInBounds_toArray, List.set_cons_succ, List.set_cons_zero]
        refine wpAnyL_take (i := 1) (f0 := 21) (v := ?_) rfl (by decide +kernel) (by decide +kernel) (by decide +kernel) (by decide +kernel) (by decide +kernel) (fun _ _ _ h => h) (Or.inl ⟨by rfl, ?_⟩) hH0 ?_
        rotate_left
        · intro wS hS; go_simp; (try with_reducible rfl)
        simp only [Act.put, List.getElem_toArray, List.getElem_cons_succ, List.getElem_cons_zero, List.setIfInBounds_toArray, List.set_cons_succ, List.set_cons_zero]
        refine wpAnyL_take (i := 2) (f0 := 21) (v := ?_) rfl (by decide +kernel) (by decide +kernel) (by decide +kernel) (by decide +kernel) (by decide +kernel) (fun _ _ _ h => h) (Or.inl ⟨by rfl, ?_⟩) hH0 ?_
        rotate_left
        · intro wS hS; have c9 := iCells0 (HSK.out _ hS).r1; go_simp; (try with_reducible rfl)
        simp only [Act.put, List.getElem_toArray, List.getElem_cons_succ, List.getElem_cons_zero, List.setIfInBounds_toArray, List.set_cons_succ, List.set_cons_zero]
        refine wpAnyL_take (i := 3) (f0 := 21) (v := ?_) rfl (by decide +kernel) (by decide +kernel) (by decide +kernel) (by decide +kernel) (by decide +kernel) (fun _ _ _ h => h) (Or.inl ⟨by rfl, ?_⟩) hH0 ?_
        rotate_left
        · intro wS hS; go_simp; (try with_reducible rfl)
        simp only [Act.put, List.getElem_toArray, List.getElem_cons_succ, List.getElem_cons_zero, List.setIfInBounds_toArray, List.set_cons_succ, List.set_cons_zero]
        refine wpAnyL_take (i := 4) (f0 := 21) (v := ?_) rfl (by decide +kernel) (by decide +kernel) (by decide +kernel) (by decide +kernel) (by decide +kernel) (fun _ _ _ h => h) (Or.inl ⟨by rfl, ?_⟩) hH0 ?_
        rotate_left
        · intro wS hS; go_simp; (try with_reducible rfl)
        simp only [Act.put, List.getElem_toArray, List.getElem_cons_succ, List.getElem_cons_zero, List.setIfInBounds_toArray, List.set_cons_succ, List.set_cons_zero]
        refine wpAnyL_take (i := 5) (f0 := 21) (v := ?_) rfl (by decide +kernel) (by decide +kernel) (by decide +kernel) (by decide +kernel) (by decide +kernel) (fun _ _ _ h => h) (Or.inl ⟨by rfl, ?_⟩) hH0 ?_
        rotate_left
        · intro wS hS; go_simp; (try with_reducible rfl)
        simp only [Act.put, List.getElem_toArray, List.getElem_cons_succ, List.getElem_cons_zero, List.setIfInBounds_toArray, List.set_cons_succ, List.set_cons_zero]
        refine wpAnyL_take (i := 6) (f0 := 21) (v := ?_) rfl (by decide +kernel) (by decide +kernel) (by decide +kernel) (by decide +kernel) (by decide +kernel) (fun _ _ _ h => h) (Or.inl ⟨by rfl, ?_⟩) hH0 ?_
        rotate_left
        · intro wS hS; have c9 := iCells0 (HSK.out _ hS).r1; go_simp; (try with_reducible rfl)
        simp only [Act.put, List.getElem_toArray, List.getElem_cons_succ, List.getElem_cons_zero, List.setIfInBounds_toArray, List.set_cons_succ, List.set_cons_zero]
        refine wpAnyL_take (i := 7) (f0 := 21) (v := ?_) rfl (by decide +kernel) (by decide +kernel) (by decide +kernel) (by decide +kernel) (by decide +kernel) (fun _ _ _ h => h) (Or.inl ⟨by rfl, ?_⟩) hH0 ?_
        rotate_left
        · intro wS hS; go_simp; (try with_reducible rfl)
        simp only [Act.put, List.getElem_toArray, List.getElem_cons_succ, List.getElem_cons_zero, List.setIfInBounds_toArray, List.set_cons_succ, List.set_cons_zero]
        refine wpAnyL_take (i := 8) (f0 := 21) (v := ?_) rfl (by decide +kernel) (by decide +kernel) (by decide +kernel) (by decide +kernel) (by decide +kernel) (fun _ _ _ h => h) (Or.inl ⟨by rfl, ?_⟩) hH0 ?_
        rotate_left
        · intro wS hS; go_simp; (try with_reducible rfl)
        simp only [Act.put, List.getElem_toArray, List.getElem_cons_succ, List.getElem_cons_zero, List.setIfInBounds_toArray, List.set_cons_succ, List.set_cons_zero]
        refine wpAnyL_take (i := 9) (f0 := 21) (v := ?_) rfl (by decide +kernel) (by decide +kernel) (by decide +kernel) (by decide +kernel) (by decide +kernel) (fun _ _ _ h => h) (Or.inl ⟨by rfl, ?_⟩) hH0 ?_
        rotate_left
        · intro wS hS; go_simp; (try with_reducible rfl)
        simp only [Act.put, List.getElem_toArray, List.getElem_cons_succ, List.getElem_cons_zero, List.setIfInBounds_toArray, List.set_cons_succ, List.set_cons_zero]
        refine wpAnyL_take (i := 10) (f0 := 21) (v := ?_) rfl (by decide +kernel) (by decide +kernel) (by decide +kernel) (by decide +kernel) (by decide +kernel) (fun _ _ _ h => h) (Or.inl ⟨by rfl, ?_⟩) hH0 ?_
        rotate_left
        · intro wS hS; go_simp; (try with_reducible rfl)
        simp only [Act.put, List.getElem_toArray, List.getElem_cons_succ, List.getElem_cons_zero, List.setIfInBounds_toArray, List.set_cons_succ, List.set_cons_zero]
        refine wpAnyL_take (i := 11) (f0 := 21) (v := ?_) rfl (by decide +kernel) (by decide +kernel) (by decide +kernel) (by decide +kernel) (by decide +kernel) (fun _ _ _ h => h) (Or.inl ⟨by rfl, ?_⟩) hH0 ?_
        rotate_left
        · intro wS hS; obtain ⟨_, p0, p1, p2, p3, p4, p5, p6⟩ := (HSK.out _ hS).its.cells hil x HX.out; go_simp; (try with_reducible rfl)
        simp only [Act.put, List.getElem_toArray, List.getElem_cons_succ, List.getElem_cons_zero, List.setIfInBounds_toArray, List.set_cons_succ, List.set_cons_zero]
        refine wpAnyL_duo (i := 12) (j := 16) (by decide +kernel) (by rfl) (by rfl) (fun K hK => ?_) (fun K hK => ?_)
        · rw [if_pos (by rfl)]
          go_simp
          refine (pmake_of l (some ⟨b, off, none⟩) n c HL.out HW.out (by omega) hnc (few_up2 ZL.out (by decide)) x.id u0 (HSK.out _ hH0).env (HSK.out _ hH0).its P0 E0 HME.out).mono ?_
          rintro e u1 ⟨A9, c9, rfl, hc9, hs1, hx1⟩
          have hH1 := hH0.trans (hx1.mono hH0.size)
          refine hK.out _ _ (Or.inr hH1) ?_
          clear hK K hx1
          try simp only [Act.put, List.getElem_toArray, List.getElem_cons_succ, List.getElem_cons_zero, List.setIfInBounds_toArray, List.set_cons_succ, List.set_cons_zero]
          refine wpAnyL_take (i := 13) (f0 := 21) (v := ?_) rfl (by decide +kernel) (by decide +kernel) (by decide +kernel) (by decide +kernel) (by decide +kernel) (fun _ _ _ h => h) (Or.inl ⟨by rfl, ?_⟩) hH1 ?_
          rotate_left
          · intro wS hS; go_simp; (try with_reducible rfl)
          simp only [Act.put, List.getElem_toArray, List.getElem_cons_succ, List.getElem_cons_zero, List.setIfInBounds_toArray, List.set_cons_succ, List.set_cons_zero]
          refine wpAnyL_take (i := 14) (f0 := 21) (v := ?_) rfl (by decide +kernel) (by decide +kernel) (by decide +kernel) (by decide +kernel) (by decide +kernel) (fun _ _ _ h => h) (Or.inl ⟨by rfl, ?_⟩) hH1 ?_
          rotate_left
          · intro wS hS; go_simp; (try with_reducible rfl)
          simp only [Act.put, List.getElem_toArray, List.getElem_cons_succ, List.getElem_cons_zero, List.setIfInBounds_toArray, List.set_cons_succ, List.set_cons_zero]
          refine wpAnyL_take (i := 15) (f0 := 21) (v := ?_) rfl (by decide +kernel) (by decide +kernel) (by decide +kernel) (by decide +kernel) (by decide +kernel) (fun _ _ _ h => h) (Or.inl ⟨by rfl, ?_⟩) hH1 ?_
          rotate_left
          · intro wS hS; go_simp; (try with_reducible rfl)
          simp only [Act.put, List.getElem_toArray, List.getElem_cons_succ, List.getElem_cons_zero, List.setIfInBounds_toArray, List.set_cons_succ, List.set_cons_zero]
          refine wpAnyL_one (i := 16) (by decide +kernel) (by rfl) (fun K hK => ?_)
          rw [if_pos (by rfl)]
          go_simp
          have hx2 := Below.news (Below.refl u1.heap.size u1) (.cells #[.int .i64 0, .int .i64 0, .int .i64 0, .string ⟨#[]⟩, .string ⟨#[]⟩, .string ⟨#[]⟩, .string ⟨#[]⟩, .string ⟨#[]⟩, .bool false, .slice none 0 0] 29)
          have hr2 := heap_alloc_new u1 (.cells #[.int .i64 0, .int .i64 0, .int .i64 0, .string ⟨#[]⟩, .string ⟨#[]⟩, .string ⟨#[]⟩, .string ⟨#[]⟩, .string ⟨#[]⟩, .bool false, .slice none 0 0] 29)
          have hg2 : w7.heap.size ≤ u1.heap.size := hH1.size
          have hH2 := hH1.trans (hx2.mono hH1.size)
          have hs2 := keepS hs1 hx2
          refine hK.out _ _ (Or.inr hH2) ?_
          clear hK K hx2
          try simp only [Act.put, List.getElem_toArray, List.getElem_cons_succ, List.getElem_cons_zero, List.setIfInBounds_toArray, List.set_cons_succ, List.set_cons_zero]
          generalize u1.alloc (.cells #[.int .i64 0, .int .i64 0, .int .i64 0, .string ⟨#[]⟩, .string ⟨#[]⟩, .string ⟨#[]⟩, .string ⟨#[]⟩, .string ⟨#[]⟩, .bool false, .slice none 0 0] 29) = u2 at *
          generalize u1.heap.size = g2 at *
          refine wpAnyL_one (i := 17) (by decide +kernel) (by rfl) (fun K hK => ?_)
          rw [if_pos (by rfl)]
          obtain ⟨z0, z1, z2, z3, z4, z5, z6, z7, z8, z9⟩ := jCells10 hr2
          obtain ⟨f0, f1, f2, f3, f4, f5, f6, f7, f8, f9⟩ := frz10 hr2
          go_simp
          have hH3 := set10_below hH2 hg2 (.int .i64 P0.count) (.int .i64 P0.idx) (.int .i64 P0.it.kind) (.string P0.it.id) (.string P0.it.parent) (.string P0.it.number) (.string P0.it.north) (.string P0.it.south) (.bool P0.it.gone) (.slice A9 P0.path.length c9)
          have hr3 := set10_row hr2 (.int .i64 P0.count) (.int .i64 P0.idx) (.int .i64 P0.it.kind) (.string P0.it.id) (.string P0.it.parent) (.string P0.it.number) (.string P0.it.north) (.string P0.it.south) (.bool P0.it.gone) (.slice A9 P0.path.length c9)
          have hs3 := strs_set10 hs2 hr2 (fun s hs u hu e => by
            have h1 := HP16.out s hs
            simp only [List.mem_cons, List.not_mem_nil, or_false] at hu
            subst e
            simp only [reduceCtorEq, Value.string.injEq, false_or, or_false, or_self] at hu
            rw [hu] at h1
            cases h1) (.int .i64 P0.count) (.int .i64 P0.idx) (.int .i64 P0.it.kind) (.string P0.it.id) (.string P0.it.parent) (.string P0.it.number) (.string P0.it.north) (.string P0.it.south) (.bool P0.it.gone) (.slice A9 P0.path.length c9)
          refine hK.out _ _ (Or.inr hH3) ?_
          clear hK K z0 z1 z2 z3 z4 z5 z6 z7 z8 z9 f0 f1 f2 f3 f4 f5 f6 f7 f8 f9
          try simp only [Act.put, List.getElem_toArray, List.getElem_cons_succ, List.getElem_cons_zero, List.setIfInBounds_toArray, List.set_cons_succ, List.set_cons_zero]
          have hsz3 := set10_size u2 g2 (.int .i64 P0.count) (.int .i64 P0.idx) (.int .i64 P0.it.kind) (.string P0.it.id) (.string P0.it.parent) (.string P0.it.number) (.string P0.it.north) (.string P0.it.south) (.bool P0.it.gone) (.slice A9 P0.path.length c9)
          rw [← hsz3] at hs3
          clear hsz3
          change wpAnyL _ _ _ _ _ _ _ _ _ (set10 u2 g2 (.int .i64 P0.count) (.int .i64 P0.idx) (.int .i64 P0.it.kind) (.string P0.it.id) (.string P0.it.parent) (.string P0.it.number) (.string P0.it.north) (.string P0.it.south) (.bool P0.it.gone) (.slice A9 P0.path.length c9))
          generalize set10 u2 g2 (.int .i64 P0.count) (.int .i64 P0.idx) (.int .i64 P0.it.kind) (.string P0.it.id) (.string P0.it.parent) (.string P0.it.number) (.string P0.it.north) (.string P0.it.south) (.bool P0.it.gone) (.slice A9 P0.path.length c9) = u3 at *
          refine wpAnyL_one (i := 18) (by decide +kernel) (by rfl) (fun K hK => ?_)
          rw [if_pos (by rfl)]
          go_simp
          refine hK.out _ _ (Or.inr hH3) ?_
          clear hK K
          try simp only [Act.put, List.getElem_toArray, List.getElem_cons_succ, List.getElem_cons_zero, List.setIfInBounds_toArray, List.set_cons_succ, List.set_cons_zero]
          refine wpAnyL_done (by decide +kernel) ?_ _
          refine NoPanic.normal ?_
          go_wp2_with fail
          go_meet
          case rel => exact ⟨_, A9, c9, rfl, rfl, hr3, hs3, hc9, hH3⟩
        · rw [if_pos (by rfl)]
          go_simp
          have hx4 := Below.news (Below.refl u0.heap.size u0) (.cells #[.int .i64 0, .int .i64 0, .int .i64 0, .string ⟨#[]⟩, .string ⟨#[]⟩, .string ⟨#[]⟩, .string ⟨#[]⟩, .string ⟨#[]⟩, .bool false, .slice none 0 0] 29)
          have hr4 := heap_alloc_new u0 (.cells #[.int .i64 0, .int .i64 0, .int .i64 0, .string ⟨#[]⟩, .string ⟨#[]⟩, .string ⟨#[]⟩, .string ⟨#[]⟩, .string ⟨#[]⟩, .bool false, .slice none 0 0] 29)
          have hg4 : w7.heap.size ≤ u0.heap.size := hH0.size
          have hH4 := hH0.trans (hx4.mono hH0.size)
          refine hK.out _ _ (Or.inr hH4) ?_
          clear hK K hx4
          try simp only [Act.put, List.getElem_toArray, List.getElem_cons_succ, List.getElem_cons_zero, List.setIfInBounds_toArray, List.set_cons_succ, List.set_cons_zero]
          generalize u0.alloc (.cells #[.int .i64 0, .int .i64 0, .int .i64 0, .string ⟨#[]⟩, .string ⟨#[]⟩, .string ⟨#[]⟩, .string ⟨#[]⟩, .string ⟨#[]⟩, .bool false, .slice none 0 0] 29) = u4 at *
          generalize u0.heap.size = g4 at *
          refine wpAnyL_one (i := 12) (by decide +kernel) (by rfl) (fun K hK => ?_)
          rw [if_pos (by rfl)]
          go_simp
          refine (pmake_of l (some ⟨b, off, none⟩) n c HL.out HW.out (by omega) hnc (few_up2 ZL.out (by decide)) x.id u4 (HSK.out _ hH4).env (HSK.out _ hH4).its P0 E0 HME.out).mono ?_
          rintro e u5 ⟨A9, c9, rfl, hc9, hs5, hx5⟩
          have hH5 := hH4.trans (hx5.mono hH4.size)
          have hr5 := iNext hr4 hx5
          refine hK.out _ _ (Or.inr hH5) ?_
          clear hK K hx5
          try simp only [Act.put, List.getElem_toArray, List.getElem_cons_succ, List.getElem_cons_zero, List.setIfInBounds_toArray, List.set_cons_succ, List.set_cons_zero]
          refine wpAnyL_take (i := 13) (f0 := 21) (v := ?_) rfl (by decide +kernel) (by decide +kernel) (by decide +kernel) (by decide +kernel) (by decide +kernel) (fun _ _ _ h => h) (Or.inl ⟨by rfl, ?_⟩) hH5 ?_
          rotate_left
          · intro wS hS; go_simp; (try with_reducible rfl)
          simp only [Act.put, List.getElem_toArray, List.getElem_cons_succ, List.getElem_cons_zero, List.setIfInBounds_toArray, List.set_cons_succ, List.set_cons_zero]
          refine wpAnyL_take (i := 14) (f0 := 21) (v := ?_) rfl (by decide +kernel) (by decide +kernel) (by decide +kernel) (by decide +kernel) (by decide +kernel) (fun _ _ _ h => h) (Or.inl ⟨by rfl, ?_⟩) hH5 ?_
          rotate_left
          · intro wS hS; go_simp; (try with_reducible rfl)
          simp only [Act.put, List.getElem_toArray, List.getElem_cons_succ, List.getElem_cons_zero, List.setIfInBounds_toArray, List.set_cons_succ, List.set_cons_zero]
          refine wpAnyL_take (i := 15) (f0 := 21) (v := ?_) rfl (by decide +kernel) (by decide +kernel) (by decide +kernel) (by decide +kernel) (by decide +kernel) (fun _ _ _ h => h) (Or.inl ⟨by rfl, ?_⟩) hH5 ?_
          rotate_left
          · intro wS hS; go_simp; (try with_reducible rfl)
          simp only [Act.put, List.getElem_toArray, List.getElem_cons_succ, List.getElem_cons_zero, List.setIfInBounds_toArray, List.set_cons_succ, List.set_cons_zero]
          refine wpAnyL_one (i := 17) (by decide +kernel) (by rfl) (fun K hK => ?_)
          rw [if_pos (by rfl)]
          obtain ⟨z0, z1, z2, z3, z4, z5, z6, z7, z8, z9⟩ := jCells10 hr5
          obtain ⟨f0, f1, f2, f3, f4, f5, f6, f7, f8, f9⟩ := frz10 hr5
          go_simp
          have hH6 := set10_below hH5 hg4 (.int .i64 P0.count) (.int .i64 P0.idx) (.int .i64 P0.it.kind) (.string P0.it.id) (.string P0.it.parent) (.string P0.it.number) (.string P0.it.north) (.string P0.it.south) (.bool P0.it.gone) (.slice A9 P0.path.length c9)
          have hr6 := set10_row hr5 (.int .i64 P0.count) (.int .i64 P0.idx) (.int .i64 P0.it.kind) (.string P0.it.id) (.string P0.it.parent) (.string P0.it.number) (.string P0.it.north) (.string P0.it.south) (.bool P0.it.gone) (.slice A9 P0.path.length c9)
          have hs6 := strs_set10 hs5 hr5 (fun s hs u hu e => by
            have h1 := HP16.out s hs
            simp only [List.mem_cons, List.not_mem_nil, or_false] at hu
            subst e
            simp only [reduceCtorEq, Value.string.injEq, false_or, or_false, or_self] at hu
            rw [hu] at h1
            cases h1) (.int .i64 P0.count) (.int .i64 P0.idx) (.int .i64 P0.it.kind) (.string P0.it.id) (.string P0.it.parent) (.string P0.it.number) (.string P0.it.north) (.string P0.it.south) (.bool P0.it.gone) (.slice A9 P0.path.length c9)
          refine hK.out _ _ (Or.inr hH6) ?_
          clear hK K z0 z1 z2 z3 z4 z5 z6 z7 z8 z9 f0 f1 f2 f3 f4 f5 f6 f7 f8 f9
          try simp only [Act.put, List.getElem_toArray, List.getElem_cons_succ, List.getElem_cons_zero, List.setIfInBounds_toArray, List.set_cons_succ, List.set_cons_zero]
          have hsz6 := set10_size u5 g4 (.int .i64 P0.count) (.int .i64 P0.idx) (.int .i64 P0.it.kind) (.string P0.it.id) (.string P0.it.parent) (.string P0.it.number) (.string P0.it.north) (.string P0.it.south) (.bool P0.it.gone) (.slice A9 P0.path.length c9)
          rw [← hsz6] at hs6
          clear hsz6
          change wpAnyL _ _ _ _ _ _ _ _ _ (set10 u5 g4 (.int .i64 P0.count) (.int .i64 P0.idx) (.int .i64 P0.it.kind) (.string P0.it.id) (.string P0.it.parent) (.string P0.it.number) (.string P0.it.north) (.string P0.it.south) (.bool P0.it.gone) (.slice A9 P0.path.length c9))
          generalize set10 u5 g4 (.int .i64 P0.count) (.int .i64 P0.idx) (.int .i64 P0.it.kind) (.string P0.it.id) (.string P0.it.parent) (.string P0.it.number) (.string P0.it.north) (.string P0.it.south) (.bool P0.it.gone) (.slice A9 P0.path.length c9) = u6 at *
          refine wpAnyL_one (i := 18) (by decide +kernel) (by rfl) (fun K hK => ?_)
          rw [if_pos (by rfl)]
          go_simp
          refine hK.out _ _ (Or.inr hH6) ?_
          clear hK K
          try simp only [Act.put, List.getElem_toArray, List.getElem_cons_succ, List.getElem_cons_zero, List.setIfInBounds_toArray, List.set_cons_succ, List.set_cons_zero]
          refine wpAnyL_done (by decide +kernel) ?_ _
          refine NoPanic.normal ?_
          go_wp2_with fail
          go_meet
          case rel => exact ⟨_, A9, c9, rfl, rfl, hr6, hs6, hc9, hH6⟩
      case rest =>
        obtain ⟨g10, A9, c9, rfl, rfl, hr10, hs9, hc9, hb9⟩ := hcut
        clear him hi1 hz hi0 hic hS7 hwr
        cases gx : x.gone with
        | true =>
          obtain rfl : E0 = 16 := by
            have h1 := HMA.out
            rw [HX.out, HME.out, if_pos gx] at h1
            injection h1
          have hup := (HSK.out _ hb9).up
          clear hr10 hs9 hc9 hb9
          go_wp2
          go_ret
          exact ⟨rfl, hup⟩
        | false =>
          obtain ⟨hpE, rfl⟩ : P0 = ⟨((Dg.leavesOf l).length : Nat), (idxN l i : Nat), Dg.bareI l[i], Dg.path (Dg.leavesOf l) (idxN l i)⟩ ∧ E0 = 0 := by
            have h1 := HMA.out
            rw [HX.out, HME.out, if_neg (by rw [gx]; decide)] at h1
            rw [HX.out]
            injection h1 with h1 h2
            exact ⟨h1, h2⟩
          have hlm : (Dg.leavesOf l).length = m := by
            rw [← HM.out, ← HL7.out]; unfold Dg.leavesC; rw [if_pos HV.out]
          obtain ⟨q, hq⟩ : ∃ q, idxN l i = q := ⟨_, rfl⟩
          have hqm : q < m := by
            have h9 := idxN_mono l (j := i + 1) (k := l.length) (by omega)
            rw [idxN_succ hil, HX.out, gx, if_neg (by decide), idxN_all, hlm, hq] at h9
            exact h9
          obtain ⟨p, hp⟩ : ∃ p, P0 = p := ⟨_, rfl⟩
          rw [hp] at hr10 hs9 hc9 hpE HP16
          obtain ⟨pn, hpn⟩ : ∃ pn, p.path.length = pn := ⟨_, rfl⟩
          rw [hpn] at hr10 hc9
          have hit : p.it = Dg.bareI l[i] := by rw [hpE]
          have hpc : p.count = (m : Int) := by rw [hpE, hlm]
          have hpi : p.idx = (q : Int) := by rw [hpE, hq]
          have hpl : pn = Dg.length m q := by
            rw [← hpn, hpE]
            show (Dg.path (Dg.leavesOf l) (idxN l i)).length = _
            rw [Dg.path_len (Dg.leavesOf l).length (Dg.leavesOf l) (idxN l i) rfl (by rw [hlm, hq]; exact hqm), hlm, hq]
          have hpn2 : pn ≤ 1000 := by
            rw [← hpn, hpE]
            have := path_few9 (Dg.leavesOf l) (idxN l i) (by rw [hlm]; omega) (by rw [hlm, hq]; exact hqm)
            exact this
          have hkd : p.it.kind = 1 ∨ p.it.kind = 2 := by
            rw [hit]
            have h1 := bare_kind HV.out hil
            unfold kindOk at h1
            exact Or.symm (show l[i].kind = 2 ∨ l[i].kind = 1 by simpa only [Bool.or_eq_true, beq_iff_eq] using h1)
          have hwk : IntKind.i64.wrap (3 - p.it.kind) = 3 - p.it.kind := IntWalk.i64_in _ (by omega)
          have HZ5 := hide (show ∀ s ∈ leafS p.it, s.size ≤ 500 from by
            rw [hit]
            have h1 := ZL.out l[i] (List.getElem_mem hil)
            exact leafS_size (x := l[i]) (z := 500) (by decide) h1)
          have HOA := hide (fun q2 (hz : ∀ s ∈ leafS q2, s.size ≤ 10000) (hne : q2 ≠ p.it) (h : checkP R ⟨p.count, p.idx, ⟨q2.kind, q2.id, q2.parent, q2.number, q2.north, q2.south, q2.gone⟩, p.path⟩ = true) => others_at HV.out ZL.out hil (by rw [HX.out]; exact gx) hit (by rw [HL7.out, HM.out]; exact hpc) (by rw [hq]; exact hpi) hz hne (by rw [HL7.out, HR.out]; exact h))
          rw [HL7.out, HM.out, hq] at HOA
          have HIT := hide hit; have HPC := hide hpc; have HPI := hide hpi; have HPL := hide hpl; have HPN := hide hpn
          have HP2 := hide (show ∀ s ∈ p.path, s.size ≤ 1048576 from fun s hs => by rw [HP16.out s hs]; decide)
          clear hit hpc hpi hpl hpn hpE hlm hq hp HMA HME gx
          have HS2 := hide (fun X (hX : Below wc.heap.size wc X) => (HSK.out _ hb9).below hX)
          have HR10 := hide (fun X (hX : Below wc.heap.size wc X) => iNext hr10 hX)
          have HST := hide (fun X (hX : Below wc.heap.size wc X) => keepS hs9 hX)
          have HG10 := hide (lt_of_block hr10)
          clear hb9 hr10 hs9 HSK
          go_upto_region 9 with (fail)
          refine wp_region_noPanic ?_
          refine wp_region_L (Below wc.heap.size wc) 15 hmx ?_
          have hH0 : (Below wc.heap.size wc) wc.drew := (Below.refl wc.heap.size wc).drew
          have hwz : wc.drew.heap.size = wc.heap.size := rfl
          generalize wc.drew = u0 at *
          refine wpAnyL_take (i := 0) (f0 := 17) (v := ?_) rfl (by decide +kernel) (by decide +kernel) (by decide +kernel) (by decide +kernel) (by decide +kernel) (fun _ _ _ h => h) (Or.inl ⟨by rfl, ?_⟩) hH0 ?_
          rotate_left
          · intro wS hS; obtain ⟨z0, z1, z2, z3, z4, z5, z6, z7, z8, z9⟩ := jCells10 (HR10.out _ hS); go_simp; (try with_reducible rfl)
          simp only [Act.put, List.getElem_toArray, List.getElem_cons_zero, List.setIfInBounds_toArray, List.set_cons_succ, List.set_cons_zero]
          refine wpAnyL_take (i := 1) (f0 := 17) (v := ?_) rfl (by decide +kernel) (by decide +kernel) (by decide +kernel) (by decide +kernel) (by decide +kernel) (fun _ _ _ h => h) (Or.inl ⟨by rfl, ?_⟩) hH0 ?_
          rotate_left
          · intro wS hS; obtain ⟨z0, z1, z2, z3, z4, z5, z6, z7, z8, z9⟩ := jCells10 (HR10.out _ hS); go_simp; (try with_reducible rfl)
          simp only [Act.put, List.getElem_toArray, List.getElem_cons_succ, List.getElem_cons_zero, List.setIfInBounds_toArray, List.set_cons_succ, List.set_cons_zero]
          refine wpAnyL_take (i := 2) (f0 := 17) (v := ?_) rfl (by decide +kernel) (by decide +kernel) (by decide +kernel) (by decide +kernel) (by decide +kernel) (fun _ _ _ h => h) (Or.inl ⟨by rfl, ?_⟩) hH0 ?_
          rotate_left
          · intro wS hS; obtain ⟨z0, z1, z2, z3, z4, z5, z6, z7, z8, z9⟩ := jCells10 (HR10.out _ hS); go_simp; (try with_reducible rfl)
          simp only [Act.put, List.getElem_toArray, List.getElem_cons_succ, List.getElem_cons_zero, List.setIfInBounds_toArray, List.set_cons_succ, List.set_cons_zero]
          refine wpAnyL_take (i := 3) (f0 := 17) (v := ?_) rfl (by decide +kernel) (by decide +kernel) (by decide +kernel) (by decide +kernel) (by decide +kernel) (fun _ _ _ h => h) (Or.inl ⟨by rfl, ?_⟩) hH0 ?_
          rotate_left
          · intro wS hS; obtain ⟨z0, z1, z2, z3, z4, z5, z6, z7, z8, z9⟩ := jCells10 (HR10.out _ hS); go_simp; (try with_reducible rfl)
          simp only [Act.put, List.getElem_toArray, List.getElem_cons_succ, List.getElem_cons_zero, List.setIfInBounds_toArray, List.set_cons_succ, List.set_cons_zero]
          refine wpAnyL_take (i := 4) (f0 := 17) (v := ?_) rfl (by decide +kernel) (by decide +kernel) (by decide +kernel) (by decide +kernel) (by decide +kernel) (fun _ _ _ h => h) (Or.inl ⟨by rfl, ?_⟩) hH0 ?_
          rotate_left
          · intro wS hS; obtain ⟨z0, z1, z2, z3, z4, z5, z6, z7, z8, z9⟩ := jCells10 (HR10.out _ hS); go_simp; (try with_reducible rfl)
          simp only [Act.put, List.getElem_toArray, List.getElem_cons_succ, List.getElem_cons_zero, List.setIfInBounds_toArray, List.set_cons_succ, List.set_cons_zero]
          refine wpAnyL_allocs (fuel := 5) (.cells #[.int .i64 0, .int .i64 0, .int .i64 0, .string ⟨#[]⟩, .string ⟨#[]⟩, .string ⟨#[]⟩, .string ⟨#[]⟩, .string ⟨#[]⟩, .bool false, .slice none 0 0] 29) [5, 6, 7, 8, 9] (fun W h => h.alloc h.size _) (by decide +kernel) (by decide) (by decide +kernel) hH0 (fun i hi => ?_) (fun f hf hinj => ?_)
          · simp only [List.mem_cons, List.not_mem_nil, or_false] at hi
            rcases hi with rfl | rfl | rfl | rfl | rfl <;> exact ⟨_, rfl, fun a W K h => by
              rw [if_pos (by rfl)]
              go_simp
              exact h⟩
          have e5 := hf 5 (by decide); have e6 := hf 6 (by decide); have e7 := hf 7 (by decide); have e8 := hf 8 (by decide); have e9 := hf 9 (by decide)
          have d56 : f 5 ≠ f 6 := fun e => absurd (hinj 5 (by decide) 6 (by decide) e) (by decide)
          have d57 : f 5 ≠ f 7 := fun e => absurd (hinj 5 (by decide) 7 (by decide) e) (by decide)
          have d58 : f 5 ≠ f 8 := fun e => absurd (hinj 5 (by decide) 8 (by decide) e) (by decide)
          have d59 : f 5 ≠ f 9 := fun e => absurd (hinj 5 (by decide) 9 (by decide) e) (by decide)
          have d67 : f 6 ≠ f 7 := fun e => absurd (hinj 6 (by decide) 7 (by decide) e) (by decide)
          have d68 : f 6 ≠ f 8 := fun e => absurd (hinj 6 (by decide) 8 (by decide) e) (by decide)
          have d69 : f 6 ≠ f 9 := fun e => absurd (hinj 6 (by decide) 9 (by decide) e) (by decide)
          have d78 : f 7 ≠ f 8 := fun e => absurd (hinj 7 (by decide) 8 (by decide) e) (by decide)
          have d79 : f 7 ≠ f 9 := fun e => absurd (hinj 7 (by decide) 9 (by decide) e) (by decide)
          have d89 : f 8 ≠ f 9 := fun e => absurd (hinj 8 (by decide) 9 (by decide) e) (by decide)
          clear hf hinj
          simp only [List.foldl_cons, List.foldl_nil, setL, putF, dstOf, ptrAt, List.length_cons, List.length_nil, Nat.zero_add, Nat.reduceAdd, Act.put, List.getElem?_toArray, List.getElem?_cons_succ, List.getElem?_cons_zero, Option.bind_some, List.setIfInBounds_toArray, List.set_cons_succ, List.set_cons_zero] at e5 e6 e7 e8 e9 ⊢
          have r5 := allocN_row (.cells #[.int .i64 0, .int .i64 0, .int .i64 0, .string ⟨#[]⟩, .string ⟨#[]⟩, .string ⟨#[]⟩, .string ⟨#[]⟩, .string ⟨#[]⟩, .bool false, .slice none 0 0] 29) 5 u0 (f 5) e5.1 e5.2
          have r6 := allocN_row (.cells #[.int .i64 0, .int .i64 0, .int .i64 0, .string ⟨#[]⟩, .string ⟨#[]⟩, .string ⟨#[]⟩, .string ⟨#[]⟩, .string ⟨#[]⟩, .bool false, .slice none 0 0] 29) 5 u0 (f 6) e6.1 e6.2
          have r7 := allocN_row (.cells #[.int .i64 0, .int .i64 0, .int .i64 0, .string ⟨#[]⟩, .string ⟨#[]⟩, .string ⟨#[]⟩, .string ⟨#[]⟩, .string ⟨#[]⟩, .bool false, .slice none 0 0] 29) 5 u0 (f 7) e7.1 e7.2
          have r8 := allocN_row (.cells #[.int .i64 0, .int .i64 0, .int .i64 0, .string ⟨#[]⟩, .string ⟨#[]⟩, .string ⟨#[]⟩, .string ⟨#[]⟩, .string ⟨#[]⟩, .bool false, .slice none 0 0] 29) 5 u0 (f 8) e8.1 e8.2
          have r9 := allocN_row (.cells #[.int .i64 0, .int .i64 0, .int .i64 0, .string ⟨#[]⟩, .string ⟨#[]⟩, .string ⟨#[]⟩, .string ⟨#[]⟩, .string ⟨#[]⟩, .bool false, .slice none 0 0] 29) 5 u0 (f 9) e9.1 e9.2
          have hH1 : (Below wc.heap.size wc) (allocN (.cells #[.int .i64 0, .int .i64 0, .int .i64 0, .string ⟨#[]⟩, .string ⟨#[]⟩, .string ⟨#[]⟩, .string ⟨#[]⟩, .string ⟨#[]⟩, .bool false, .slice none 0 0] 29) 5 u0) := allocN_below _ 5 u0 hH0
          have g5 : wc.heap.size ≤ f 5 := Nat.le_trans hH0.size e5.1
          have g6 : wc.heap.size ≤ f 6 := Nat.le_trans hH0.size e6.1
          have g7 : wc.heap.size ≤ f 7 := Nat.le_trans hH0.size e7.1
          have g8 : wc.heap.size ≤ f 8 := Nat.le_trans hH0.size e8.1
          have g9 : wc.heap.size ≤ f 9 := Nat.le_trans hH0.size e9.1
          clear e5 e6 e7 e8 e9 hH0 hwz
          generalize allocN (.cells #[.int .i64 0, .int .i64 0, .int .i64 0, .string ⟨#[]⟩, .string ⟨#[]⟩, .string ⟨#[]⟩, .string ⟨#[]⟩, .string ⟨#[]⟩, .bool false, .slice none 0 0] 29) 5 u0 = u1 at *
          generalize f 5 = b5 at *
          generalize f 6 = b6 at *
          generalize f 7 = b7 at *
          generalize f 8 = b8 at *
          generalize f 9 = b9 at *
          refine wpAnyL_one (i := 10) (by decide +kernel) (by rfl) (fun K hK => ?_)
          rw [if_pos (by rfl)]
          obtain ⟨z0, z1, z2, z3, z4, z5, z6, z7, z8, z9⟩ := jCells10 r5
          obtain ⟨f0, f1, f2, f3, f4, f5, f6, f7, f8, f9⟩ := frz10 r5
          go_simp
          have hH2 := set10_below hH1 g5 (.int .i64 p.count) (.int .i64 p.idx) (.int .i64 p.it.kind) (.string p.it.id) (.string p.it.parent) (.string p.it.number) (.string p.it.north) (.string p.it.south) (.bool p.it.gone) (.slice A9 pn c9)
          refine hK.out _ _ (Or.inr hH2) ?_
          clear hK K z0 z1 z2 z3 z4 z5 z6 z7 z8 z9 f0 f1 f2 f3 f4 f5 f6 f7 f8 f9
          try simp only [Act.put, List.getElem_toArray, List.getElem_cons_succ, List.getElem_cons_zero, List.setIfInBounds_toArray, List.set_cons_succ, List.set_cons_zero]
          change wpAnyL _ _ _ _ _ _ _ _ _ (set10 u1 b5 (.int .i64 p.count) (.int .i64 p.idx) (.int .i64 p.it.kind) (.string p.it.id) (.string p.it.parent) (.string p.it.number) (.string p.it.north) (.string p.it.south) (.bool p.it.gone) (.slice A9 pn c9))
          replace r5 := set10_row r5 (.int .i64 p.count) (.int .i64 p.idx) (.int .i64 p.it.kind) (.string p.it.id) (.string p.it.parent) (.string p.it.number) (.string p.it.north) (.string p.it.south) (.bool p.it.gone) (.slice A9 pn c9)
          replace r6 := (set10_off d56.symm (.int .i64 p.count) (.int .i64 p.idx) (.int .i64 p.it.kind) (.string p.it.id) (.string p.it.parent) (.string p.it.number) (.string p.it.north) (.string p.it.south) (.bool p.it.gone) (.slice A9 pn c9)).trans r6
          replace r7 := (set10_off d57.symm (.int .i64 p.count) (.int .i64 p.idx) (.int .i64 p.it.kind) (.string p.it.id) (.string p.it.parent) (.string p.it.number) (.string p.it.north) (.string p.it.south) (.bool p.it.gone) (.slice A9 pn c9)).trans r7
          replace r8 := (set10_off d58.symm (.int .i64 p.count) (.int .i64 p.idx) (.int .i64 p.it.kind) (.string p.it.id) (.string p.it.parent) (.string p.it.number) (.string p.it.north) (.string p.it.south) (.bool p.it.gone) (.slice A9 pn c9)).trans r8
          replace r9 := (set10_off d59.symm (.int .i64 p.count) (.int .i64 p.idx) (.int .i64 p.it.kind) (.string p.it.id) (.string p.it.parent) (.string p.it.number) (.string p.it.north) (.string p.it.south) (.bool p.it.gone) (.slice A9 pn c9)).trans r9
          clear hH1
          generalize set10 u1 b5 (.int .i64 p.count) (.int .i64 p.idx) (.int .i64 p.it.kind) (.string p.it.id) (.string p.it.parent) (.string p.it.number) (.string p.it.north) (.string p.it.south) (.bool p.it.gone) (.slice A9 pn c9) = u2 at *
          refine wpAnyL_one (i := 11) (by decide +kernel) (by rfl) (fun K hK => ?_)
          rw [if_pos (by rfl)]
          obtain ⟨z0, z1, z2, z3, z4, z5, z6, z7, z8, z9⟩ := jCells10 r6
          obtain ⟨f0, f1, f2, f3, f4, f5, f6, f7, f8, f9⟩ := frz10 r6
          go_simp
          have hH3 := set10_below hH2 g6 (.int .i64 p.count) (.int .i64 p.idx) (.int .i64 p.it.kind) (.string p.it.id) (.string p.it.parent) (.string p.it.number) (.string p.it.north) (.string p.it.south) (.bool p.it.gone) (.slice A9 pn c9)
          refine hK.out _ _ (Or.inr hH3) ?_
          clear hK K z0 z1 z2 z3 z4 z5 z6 z7 z8 z9 f0 f1 f2 f3 f4 f5 f6 f7 f8 f9
          try simp only [Act.put, List.getElem_toArray, List.getElem_cons_succ, List.getElem_cons_zero, List.setIfInBounds_toArray, List.set_cons_succ, List.set_cons_zero]
          change wpAnyL _ _ _ _ _ _ _ _ _ (set10 u2 b6 (.int .i64 p.count) (.int .i64 p.idx) (.int .i64 p.it.kind) (.string p.it.id) (.string p.it.parent) (.string p.it.number) (.string p.it.north) (.string p.it.south) (.bool p.it.gone) (.slice A9 pn c9))
          replace r6 := set10_row r6 (.int .i64 p.count) (.int .i64 p.idx) (.int .i64 p.it.kind) (.string p.it.id) (.string p.it.parent) (.string p.it.number) (.string p.it.north) (.string p.it.south) (.bool p.it.gone) (.slice A9 pn c9)
          replace r5 := (set10_off d56 (.int .i64 p.count) (.int .i64 p.idx) (.int .i64 p.it.kind) (.string p.it.id) (.string p.it.parent) (.string p.it.number) (.string p.it.north) (.string p.it.south) (.bool p.it.gone) (.slice A9 pn c9)).trans r5
          replace r7 := (set10_off d67.symm (.int .i64 p.count) (.int .i64 p.idx) (.int .i64 p.it.kind) (.string p.it.id) (.string p.it.parent) (.string p.it.number) (.string p.it.north) (.string p.it.south) (.bool p.it.gone) (.slice A9 pn c9)).trans r7
          replace r8 := (set10_off d68.symm (.int .i64 p.count) (.int .i64 p.idx) (.int .i64 p.it.kind) (.string p.it.id) (.string p.it.parent) (.string p.it.number) (.string p.it.north) (.string p.it.south) (.bool p.it.gone) (.slice A9 pn c9)).trans r8
          replace r9 := (set10_off d69.symm (.int .i64 p.count) (.int .i64 p.idx) (.int .i64 p.it.kind) (.string p.it.id) (.string p.it.parent) (.string p.it.number) (.string p.it.north) (.string p.it.south) (.bool p.it.gone) (.slice A9 pn c9)).trans r9
          clear hH2
          generalize set10 u2 b6 (.int .i64 p.count) (.int .i64 p.idx) (.int .i64 p.it.kind) (.string p.it.id) (.string p.it.parent) (.string p.it.number) (.string p.it.north) (.string p.it.south) (.bool p.it.gone) (.slice A9 pn c9) = u3 at *
          refine wpAnyL_one (i := 12) (by decide +kernel) (by rfl) (fun K hK => ?_)
          rw [if_pos (by rfl)]
          obtain ⟨z0, z1, z2, z3, z4, z5, z6, z7, z8, z9⟩ := jCells10 r7
          obtain ⟨f0, f1, f2, f3, f4, f5, f6, f7, f8, f9⟩ := frz10 r7
          go_simp
          have hH4 := set10_below hH3 g7 (.int .i64 p.count) (.int .i64 p.idx) (.int .i64 p.it.kind) (.string p.it.id) (.string p.it.parent) (.string p.it.number) (.string p.it.north) (.string p.it.south) (.bool p.it.gone) (.slice A9 pn c9)
          refine hK.out _ _ (Or.inr hH4) ?_
          clear hK K z0 z1 z2 z3 z4 z5 z6 z7 z8 z9 f0 f1 f2 f3 f4 f5 f6 f7 f8 f9
          try simp only [Act.put, List.getElem_toArray, List.getElem_cons_succ, List.getElem_cons_zero, List.setIfInBounds_toArray, List.set_cons_succ, List.set_cons_zero]
          change wpAnyL _ _ _ _ _ _ _ _ _ (set10 u3 b7 (.int .i64 p.count) (.int .i64 p.idx) (.int .i64 p.it.kind) (.string p.it.id) (.string p.it.parent) (.string p.it.number) (.string p.it.north) (.string p.it.south) (.bool p.it.gone) (.slice A9 pn c9))
          replace r7 := set10_row r7 (.int .i64 p.count) (.int .i64 p.idx) (.int .i64 p.it.kind) (.string p.it.id) (.string p.it.parent) (.string p.it.number) (.string p.it.north) (.string p.it.south) (.bool p.it.gone) (.slice A9 pn c9)
          replace r5 := (set10_off d57 (.int .i64 p.count) (.int .i64 p.idx) (.int .i64 p.it.kind) (.string p.it.id) (.string p.it.parent) (.string p.it.number) (.string p.it.north) (.string p.it.south) (.bool p.it.gone) (.slice A9 pn c9)).trans r5
          replace r6 := (set10_off d67 (.int .i64 p.count) (.int .i64 p.idx) (.int .i64 p.it.kind) (.string p.it.id) (.string p.it.parent) (.string p.it.number) (.string p.it.north) (.string p.it.south) (.bool p.it.gone) (.slice A9 pn c9)).trans r6
          replace r8 := (set10_off d78.symm (.int .i64 p.count) (.int .i64 p.idx) (.int .i64 p.it.kind) (.string p.it.id) (.string p.it.parent) (.string p.it.number) (.string p.it.north) (.string p.it.south) (.bool p.it.gone) (.slice A9 pn c9)).trans r8
          replace r9 := (set10_off d79.symm (.int .i64 p.count) (.int .i64 p.idx) (.int .i64 p.it.kind) (.string p.it.id) (.string p.it.parent) (.string p.it.number) (.string p.it.north) (.string p.it.south) (.bool p.it.gone) (.slice A9 pn c9)).trans r9
          clear hH3
          generalize set10 u3 b7 (.int .i64 p.count) (.int .i64 p.idx) (.int .i64 p.it.kind) (.string p.it.id) (.string p.it.parent) (.string p.it.number) (.string p.it.north) (.string p.it.south) (.bool p.it.gone) (.slice A9 pn c9) = u4 at *
          refine wpAnyL_one (i := 13) (by decide +kernel) (by rfl) (fun K hK => ?_)
          rw [if_pos (by rfl)]
          obtain ⟨z0, z1, z2, z3, z4, z5, z6, z7, z8, z9⟩ := jCells10 r8
          obtain ⟨f0, f1, f2, f3, f4, f5, f6, f7, f8, f9⟩ := frz10 r8
          go_simp
          have hH5 := set10_below hH4 g8 (.int .i64 p.count) (.int .i64 p.idx) (.int .i64 p.it.kind) (.string p.it.id) (.string p.it.parent) (.string p.it.number) (.string p.it.north) (.string p.it.south) (.bool p.it.gone) (.slice A9 pn c9)
          refine hK.out _ _ (Or.inr hH5) ?_
          clear hK K z0 z1 z2 z3 z4 z5 z6 z7 z8 z9 f0 f1 f2 f3 f4 f5 f6 f7 f8 f9
          try simp only [Act.put, List.getElem_toArray, List.getElem_cons_succ, List.getElem_cons_zero, List.setIfInBounds_toArray, List.set_cons_succ, List.set_cons_zero]
          change wpAnyL _ _ _ _ _ _ _ _ _ (set10 u4 b8 (.int .i64 p.count) (.int .i64 p.idx) (.int .i64 p.it.kind) (.string p.it.id) (.string p.it.parent) (.string p.it.number) (.string p.it.north) (.string p.it.south) (.bool p.it.gone) (.slice A9 pn c9))
          replace r8 := set10_row r8 (.int .i64 p.count) (.int .i64 p.idx) (.int .i64 p.it.kind) (.string p.it.id) (.string p.it.parent) (.string p.it.number) (.string p.it.north) (.string p.it.south) (.bool p.it.gone) (.slice A9 pn c9)
          replace r5 := (set10_off d58 (.int .i64 p.count) (.int .i64 p.idx) (.int .i64 p.it.kind) (.string p.it.id) (.string p.it.parent) (.string p.it.number) (.string p.it.north) (.string p.it.south) (.bool p.it.gone) (.slice A9 pn c9)).trans r5
          replace r6 := (set10_off d68 (.int .i64 p.count) (.int .i64 p.idx) (.int .i64 p.it.kind) (.string p.it.id) (.string p.it.parent) (.string p.it.number) (.string p.it.north) (.string p.it.south) (.bool p.it.gone) (.slice A9 pn c9)).trans r6
          replace r7 := (set10_off d78 (.int .i64 p.count) (.int .i64 p.idx) (.int .i64 p.it.kind) (.string p.it.id) (.string p.it.parent) (.string p.it.number) (.string p.it.north) (.string p.it.south) (.bool p.it.gone) (.slice A9 pn c9)).trans r7
          replace r9 := (set10_off d89.symm (.int .i64 p.count) (.int .i64 p.idx) (.int .i64 p.it.kind) (.string p.it.id) (.string p.it.parent) (.string p.it.number) (.string p.it.north) (.string p.it.south) (.bool p.it.gone) (.slice A9 pn c9)).trans r9
          clear hH4
          generalize set10 u4 b8 (.int .i64 p.count) (.int .i64 p.idx) (.int .i64 p.it.kind) (.string p.it.id) (.string p.it.parent) (.string p.it.number) (.string p.it.north) (.string p.it.south) (.bool p.it.gone) (.slice A9 pn c9) = u5 at *
          refine wpAnyL_one (i := 14) (by decide +kernel) (by rfl) (fun K hK => ?_)
          rw [if_pos (by rfl)]
          obtain ⟨z0, z1, z2, z3, z4, z5, z6, z7, z8, z9⟩ := jCells10 r9
          obtain ⟨f0, f1, f2, f3, f4, f5, f6, f7, f8, f9⟩ := frz10 r9
          go_simp
          have hH6 := set10_below hH5 g9 (.int .i64 p.count) (.int .i64 p.idx) (.int .i64 p.it.kind) (.string p.it.id) (.string p.it.parent) (.string p.it.number) (.string p.it.north) (.string p.it.south) (.bool p.it.gone) (.slice A9 pn c9)
          refine hK.out _ _ (Or.inr hH6) ?_
          clear hK K z0 z1 z2 z3 z4 z5 z6 z7 z8 z9 f0 f1 f2 f3 f4 f5 f6 f7 f8 f9
          try simp only [Act.put, List.getElem_toArray, List.getElem_cons_succ, List.getElem_cons_zero, List.setIfInBounds_toArray, List.set_cons_succ, List.set_cons_zero]
          change wpAnyL _ _ _ _ _ _ _ _ _ (set10 u5 b9 (.int .i64 p.count) (.int .i64 p.idx) (.int .i64 p.it.kind) (.string p.it.id) (.string p.it.parent) (.string p.it.number) (.string p.it.north) (.string p.it.south) (.bool p.it.gone) (.slice A9 pn c9))
          replace r9 := set10_row r9 (.int .i64 p.count) (.int .i64 p.idx) (.int .i64 p.it.kind) (.string p.it.id) (.string p.it.parent) (.string p.it.number) (.string p.it.north) (.string p.it.south) (.bool p.it.gone) (.slice A9 pn c9)
          replace r5 := (set10_off d59 (.int .i64 p.count) (.int .i64 p.idx) (.int .i64 p.it.kind) (.string p.it.id) (.string p.it.parent) (.string p.it.number) (.string p.it.north) (.string p.it.south) (.bool p.it.gone) (.slice A9 pn c9)).trans r5
          replace r6 := (set10_off d69 (.int .i64 p.count) (.int .i64 p.idx) (.int .i64 p.it.kind) (.string p.it.id) (.string p.it.parent) (.string p.it.number) (.string p.it.north) (.string p.it.south) (.bool p.it.gone) (.slice A9 pn c9)).trans r6
          replace r7 := (set10_off d79 (.int .i64 p.count) (.int .i64 p.idx) (.int .i64 p.it.kind) (.string p.it.id) (.string p.it.parent) (.string p.it.number) (.string p.it.north) (.string p.it.south) (.bool p.it.gone) (.slice A9 pn c9)).trans r7
          replace r8 := (set10_off d89 (.int .i64 p.count) (.int .i64 p.idx) (.int .i64 p.it.kind) (.string p.it.id) (.string p.it.parent) (.string p.it.number) (.string p.it.north) (.string p.it.south) (.bool p.it.gone) (.slice A9 pn c9)).trans r8
          clear hH5
          generalize set10 u5 b9 (.int .i64 p.count) (.int .i64 p.idx) (.int .i64 p.it.kind) (.string p.it.id) (.string p.it.parent) (.string p.it.number) (.string p.it.north) (.string p.it.south) (.bool p.it.gone) (.slice A9 pn c9) = u6 at *
          refine wpAnyL_done (by decide +kernel) ?_ _
          refine NoPanic.normal ?_
          have hz16 := HP16.out
          clear hz16
          obtain ⟨z0, z1, z2, z3, z4, z5, z6, z7, z8, z9⟩ := jCells10 r5
          have ff := frozen_of_row _ _ 6 _ _ r5
          go_upto_region 11 with (fail)
          have hH7 := hH6.setCell (p := ⟨b5, 6, none⟩) g5 (.string other)
          clear z0 z1 z2 z3 z4 z5 z6 z7 z8 z9 ff hH6
          replace r5 := setCell_rowN r5 6 (.string other)
          simp only [List.setIfInBounds_toArray, List.set_cons_zero, List.set_cons_succ] at r5
          replace r6 := (setCell_off (v := .string other) (o := 6) d56.symm).trans r6
          replace r7 := (setCell_off (v := .string other) (o := 6) d57.symm).trans r7
          replace r8 := (setCell_off (v := .string other) (o := 6) d58.symm).trans r8
          replace r9 := (setCell_off (v := .string other) (o := 6) d59.symm).trans r9
          generalize u6.setCell ⟨b5, 6, none⟩ (.string other) = u7 at *
          obtain ⟨z0, z1, z2, z3, z4, z5, z6, z7, z8, z9⟩ := jCells10 r6
          have ff := frozen_of_row _ _ 7 _ _ r6
          go_upto_region 12 with (fail)
          have hH8 := hH7.setCell (p := ⟨b6, 7, none⟩) g6 (.string other)
          clear z0 z1 z2 z3 z4 z5 z6 z7 z8 z9 ff hH7
          replace r6 := setCell_rowN r6 7 (.string other)
          simp only [List.setIfInBounds_toArray, List.set_cons_zero, List.set_cons_succ] at r6
          replace r5 := (setCell_off (v := .string other) (o := 7) d56).trans r5
          replace r7 := (setCell_off (v := .string other) (o := 7) d67.symm).trans r7
          replace r8 := (setCell_off (v := .string other) (o := 7) d68.symm).trans r8
          replace r9 := (setCell_off (v := .string other) (o := 7) d69.symm).trans r9
          generalize u7.setCell ⟨b6, 7, none⟩ (.string other) = u8 at *
          obtain ⟨z0, z1, z2, z3, z4, z5, z6, z7, z8, z9⟩ := jCells10 r7
          have ff := frozen_of_row _ _ 5 _ _ r7
          go_upto_region 13 with (fail)
          have hH9 := hH8.setCell (p := ⟨b7, 5, none⟩) g7 (.string ⟨#[49]⟩)
          clear z0 z1 z2 z3 z4 z5 z6 z7 z8 z9 ff hH8
          replace r7 := setCell_rowN r7 5 (.string ⟨#[49]⟩)
          simp only [List.setIfInBounds_toArray, List.set_cons_zero, List.set_cons_succ] at r7
          replace r5 := (setCell_off (v := .string ⟨#[49]⟩) (o := 5) d57).trans r5
          replace r6 := (setCell_off (v := .string ⟨#[49]⟩) (o := 5) d67).trans r6
          replace r8 := (setCell_off (v := .string ⟨#[49]⟩) (o := 5) d78.symm).trans r8
          replace r9 := (setCell_off (v := .string ⟨#[49]⟩) (o := 5) d79.symm).trans r9
          generalize u8.setCell ⟨b7, 5, none⟩ (.string ⟨#[49]⟩) = u9 at *
          obtain ⟨y0, y1, y2, y3, y4, y5, y6, y7, y8, y9⟩ := jCells10 (HR10.out _ hH9)
          obtain ⟨z0, z1, z2, z3, z4, z5, z6, z7, z8, z9⟩ := jCells10 r8
          have ff := frozen_of_row _ _ 2 _ _ r8
          go_upto_region 14 with (fail)
          have hH10 := hH9.setCell (p := ⟨b8, 2, none⟩) g8 (.int .i64 (3 - p.it.kind))
          clear z0 z1 z2 z3 z4 z5 z6 z7 z8 z9 ff hH9
          replace r8 := setCell_rowN r8 2 (.int .i64 (3 - p.it.kind))
          simp only [List.setIfInBounds_toArray, List.set_cons_zero, List.set_cons_succ] at r8
          replace r5 := (setCell_off (v := .int .i64 (3 - p.it.kind)) (o := 2) d58).trans r5
          replace r6 := (setCell_off (v := .int .i64 (3 - p.it.kind)) (o := 2) d68).trans r6
          replace r7 := (setCell_off (v := .int .i64 (3 - p.it.kind)) (o := 2) d78).trans r7
          replace r9 := (setCell_off (v := .int .i64 (3 - p.it.kind)) (o := 2) d89.symm).trans r9
          generalize u9.setCell ⟨b8, 2, none⟩ (.int .i64 (3 - p.it.kind)) = u10 at *
          clear y0 y1 y2 y3 y4 y5 y6 y7 y8 y9
          obtain ⟨z0, z1, z2, z3, z4, z5, z6, z7, z8, z9⟩ := jCells10 r9
          have ff := frozen_of_row _ _ 8 _ _ r9
          go_upto_region 15 with (fail)
          have hB := hH10.setCell (p := ⟨b9, 8, none⟩) g9 (.bool true)
          clear z0 z1 z2 z3 z4 z5 z6 z7 z8 z9 ff hH10
          replace r9 := setCell_rowN r9 8 (.bool true)
          simp only [List.setIfInBounds_toArray, List.set_cons_zero, List.set_cons_succ] at r9
          replace r5 := (setCell_off (v := .bool true) (o := 8) d59).trans r5
          replace r6 := (setCell_off (v := .bool true) (o := 8) d69).trans r6
          replace r7 := (setCell_off (v := .bool true) (o := 8) d79).trans r7
          replace r8 := (setCell_off (v := .bool true) (o := 8) d89).trans r8
          generalize u10.setCell ⟨b9, 8, none⟩ (.bool true) = w20 at *
          -- the proof with a number, and the one of a thing that is gone
          have hf1 : checkP R ⟨p.count, p.idx, ⟨p.it.kind, p.it.id, p.it.parent, ⟨#[49]⟩, p.it.north, p.it.south, p.it.gone⟩, p.path⟩ = false := others_num R p p.it ⟨#[49]⟩ (by decide)
          have hf2 : checkP R ⟨p.count, p.idx, ⟨p.it.kind, p.it.id, p.it.parent, p.it.number, p.it.north, p.it.south, true⟩, p.path⟩ = false := others_gone R p p.it
          have HF1 := hide hf1; have HF2 := hide hf2
          clear hf1 hf2
          obtain ⟨z0, z1, z2, z3, z4, z5, z6, z7, z8, z9⟩ := jCells10 r7
          go_wp2_with fail
          refine (pcheck_of R ⟨p.count, p.idx, ⟨p.it.kind, p.it.id, p.it.parent, ⟨#[49]⟩, p.it.north, p.it.south, p.it.gone⟩, p.path⟩ A9 pn c9 HPN.out (by omega) HP2.out (fun s hs => Nat.le_trans (HZ5.out s hs) (by decide)) w20 (HS2.out _ hB).env (HST.out _ hB) false HF1.out).mono ?_
          rintro e w21 ⟨rfl, hx⟩
          have hB1 := hB.trans (hx.mono hB.size)
          replace r5 := iNext r5 hx
          replace r6 := iNext r6 hx
          replace r8 := iNext r8 hx
          replace r9 := iNext r9 hx
          clear hB hx z0 z1 z2 z3 z4 z5 z6 z7 z8 z9 r7
          obtain ⟨z0, z1, z2, z3, z4, z5, z6, z7, z8, z9⟩ := jCells10 r9
          go_wp2_with fail
          refine (pcheck_of R ⟨p.count, p.idx, ⟨p.it.kind, p.it.id, p.it.parent, p.it.number, p.it.north, p.it.south, true⟩, p.path⟩ A9 pn c9 HPN.out (by omega) HP2.out (fun s hs => Nat.le_trans (HZ5.out s hs) (by decide)) w21 (HS2.out _ hB1).env (HST.out _ hB1) false HF2.out).mono ?_
          rintro e w22 ⟨rfl, hx⟩
          have hB2 := hB1.trans (hx.mono hB1.size)
          replace r5 := iNext r5 hx
          replace r6 := iNext r6 hx
          replace r8 := iNext r8 hx
          clear hB1 hx z0 z1 z2 z3 z4 z5 z6 z7 z8 z9 r9
          obtain ⟨x0, x1, x2, x3, x4, x5, x6, x7, x8, x9⟩ := jCells10 r5
          obtain ⟨y0, y1, y2, y3, y4, y5, y6, y7, y8, y9⟩ := jCells10 r6
          obtain ⟨z0, z1, z2, z3, z4, z5, z6, z7, z8, z9⟩ := jCells10 r8
          go_upto_region 18 with (fail)
          have hx := Below.news (Below.refl w22.heap.size w22) (.cells #[.int .i64 p.count, .int .i64 p.idx, .int .i64 p.it.kind, .string p.it.id, .string p.it.parent, .string p.it.number, .string other, .string p.it.south, .bool p.it.gone, .slice A9 pn c9, .int .i64 p.count, .int .i64 p.idx, .int .i64 p.it.kind, .string p.it.id, .string p.it.parent, .string p.it.number, .string p.it.north, .string other, .bool p.it.gone, .slice A9 pn c9, .int .i64 p.count, .int .i64 p.idx, .int .i64 (3 - p.it.kind), .string p.it.id, .string p.it.parent, .string p.it.number, .string p.it.north, .string p.it.south, .bool p.it.gone, .slice A9 pn c9] 29)
          have hrl := heap_alloc_new w22 (.cells #[.int .i64 p.count, .int .i64 p.idx, .int .i64 p.it.kind, .string p.it.id, .string p.it.parent, .string p.it.number, .string other, .string p.it.south, .bool p.it.gone, .slice A9 pn c9, .int .i64 p.count, .int .i64 p.idx, .int .i64 p.it.kind, .string p.it.id, .string p.it.parent, .string p.it.number, .string p.it.north, .string other, .bool p.it.gone, .slice A9 pn c9, .int .i64 p.count, .int .i64 p.idx, .int .i64 (3 - p.it.kind), .string p.it.id, .string p.it.parent, .string p.it.number, .string p.it.north, .string p.it.south, .bool p.it.gone, .slice A9 pn c9] 29)
          have hB3 := hB2.trans (hx.mono hB2.size)
          clear hB2 hx r5 r6 r8 x0 x1 x2 x3 x4 x5 x6 x7 x8 x9 y0 y1 y2 y3 y4 y5 y6 y7 y8 y9 z0 z1 z2 z3 z4 z5 z6 z7 z8 z9
          generalize w22.alloc (.cells #[.int .i64 p.count, .int .i64 p.idx, .int .i64 p.it.kind, .string p.it.id, .string p.it.parent, .string p.it.number, .string other, .string p.it.south, .bool p.it.gone, .slice A9 pn c9, .int .i64 p.count, .int .i64 p.idx, .int .i64 p.it.kind, .string p.it.id, .string p.it.parent, .string p.it.number, .string p.it.north, .string other, .bool p.it.gone, .slice A9 pn c9, .int .i64 p.count, .int .i64 p.idx, .int .i64 (3 - p.it.kind), .string p.it.id, .string p.it.parent, .string p.it.number, .string p.it.north, .string p.it.south, .bool p.it.gone, .slice A9 pn c9] 29) = w23 at *
          generalize w22.heap.size = lb at *
          have HCE := hide (fun (X : World) (j : Nat) (q2 : Dg.It) (h : X.heap[lb]? = some (.cells #[.int .i64 p.count, .int .i64 p.idx, .int .i64 p.it.kind, .string p.it.id, .string p.it.parent, .string p.it.number, .string other, .string p.it.south, .bool p.it.gone, .slice A9 pn c9, .int .i64 p.count, .int .i64 p.idx, .int .i64 p.it.kind, .string p.it.id, .string p.it.parent, .string p.it.number, .string p.it.north, .string other, .bool p.it.gone, .slice A9 pn c9, .int .i64 p.count, .int .i64 p.idx, .int .i64 (3 - p.it.kind), .string p.it.id, .string p.it.parent, .string p.it.number, .string p.it.north, .string p.it.south, .bool p.it.gone, .slice A9 pn c9] 29 (0, 0))) (hq : (othI p.it other)[j]? = some q2) => oth_cells h hq)
          clear hwk hkd
          have HOS := hide (othI_size (x := p.it) (o := other) HZ5.out HOZ.out)
          go_wp2
          go_loopw [18] (fun iv wr => ∃ j : Nat, j ≤ 3 ∧ iv = .int .i64 (j : Int) ∧ S30 wc lb p A9 pn c9 other wr) (fun iv _ => 3 - (intOf iv).toNat)
          case atStart => exact ⟨0, by omega, rfl, ⟨hB3, hrl⟩⟩
          case round =>
            clear hB3 hrl
            obtain ⟨j, hj, rfl, hS⟩ := hrel
            by_cases hlt : j < 3
            · have hj3 : (j : Int) < 3 := by omega
              have hj0 : (0 : Int) ≤ (j : Int) := by omega
              obtain ⟨q2, hq2⟩ : ∃ q2, (othI p.it other)[j]? = some q2 := ⟨_, List.getElem?_eq_getElem (by exact hlt)⟩
              have HQ2 := hide hq2
              have HQZ := hide (HOS.out q2 (List.mem_of_getElem? hq2))
              obtain ⟨C, hC⟩ : ∃ C, checkP R ⟨p.count, p.idx, ⟨q2.kind, q2.id, q2.parent, q2.number, q2.north, q2.south, q2.gone⟩, p.path⟩ = C := ⟨_, rfl⟩
              have HC := hide hC
              clear hC hq2
              by_cases heq : q2 = p.it
              · have hit : ∀ W, (binOp .eql 26 (.agg #[.int .i64 q2.kind, .string q2.id, .string q2.parent, .string q2.number, .string q2.north, .string q2.south, .bool q2.gone]) (.agg #[.int .i64 p.it.kind, .string p.it.id, .string p.it.parent, .string p.it.number, .string p.it.north, .string p.it.south, .bool p.it.gone])).run Tryz.prog W = .ok (.bool true) W := fun W => by
                  have := item_eql W q2 p.it
                  rw [(sameI_iff q2 p.it).2 heq] at this
                  exact this
                clear heq
                go_upto_region 21 with (fail)
                refine wp_region_noPanic ?_
                refine wp_region_L (S30 wc lb p A9 pn c9 other) 17 hmx ?_
                have hdr := (Below.refl wr.heap.size wr).drew
                have hS31 : (S30 wc lb p A9 pn c9 other) wr.drew := hS.below hdr
                clear hdr hS
                generalize wr.drew = w31 at *
                refine wpAnyL_take (i := 0) (f0 := 19) (v := ?_) rfl (by decide +kernel) (by decide +kernel) (by decide +kernel) (by decide +kernel) (by decide +kernel) (fun _ _ _ h => h) (Or.inl ⟨by rfl, ?_⟩) hS31 ?_
                rotate_left
                · intro wS hS; go_simp; (try with_reducible rfl)
                simp only [Act.put, List.getElem_toArray, List.getElem_cons_zero, List.setIfInBounds_toArray, List.set_cons_succ, List.set_cons_zero]
                refine wpAnyL_take (i := 1) (f0 := 19) (v := ?_) rfl (by decide +kernel) (by decide +kernel) (by decide +kernel) (by decide +kernel) (by decide +kernel) (fun _ _ _ h => h) (Or.inl ⟨by rfl, ?_⟩) hS31 ?_
                rotate_left
                · intro wS hS; go_simp; (try with_reducible rfl)
                simp only [Act.put, List.getElem_toArray, List.getElem_cons_succ, List.getElem_cons_zero, List.setIfInBounds_toArray, List.set_cons_succ, List.set_cons_zero]
                refine wpAnyL_take (i := 2) (f0 := 19) (v := ?_) rfl (by decide +kernel) (by decide +kernel) (by decide +kernel) (by decide +kernel) (by decide +kernel) (fun _ _ _ h => h) (Or.inl ⟨by rfl, ?_⟩) hS31 ?_
                rotate_left
                · intro wS hS; go_simp; (try with_reducible rfl)
                simp only [Act.put, List.getElem_toArray, List.getElem_cons_succ, List.getElem_cons_zero, List.setIfInBounds_toArray, List.set_cons_succ, List.set_cons_zero]
                refine wpAnyL_take (i := 3) (f0 := 19) (v := ?_) rfl (by decide +kernel) (by decide +kernel) (by decide +kernel) (by decide +kernel) (by decide +kernel) (fun _ _ _ h => h) (Or.inl ⟨by rfl, ?_⟩) hS31 ?_
                rotate_left
                · intro wS hS; go_simp; (try with_reducible rfl)
                simp only [Act.put, List.getElem_toArray, List.getElem_cons_succ, List.getElem_cons_zero, List.setIfInBounds_toArray, List.set_cons_succ, List.set_cons_zero]
                refine wpAnyL_take (i := 4) (f0 := 19) (v := ?_) rfl (by decide +kernel) (by decide +kernel) (by decide +kernel) (by decide +kernel) (by decide +kernel) (fun _ _ _ h => h) (Or.inl ⟨by rfl, ?_⟩) hS31 ?_
                rotate_left
                · intro wS hS; obtain ⟨x0, x1, x2, x3, x4, x5, x6, x7, x8, x9⟩ := HCE.out _ j q2 hS.row HQ2.out; go_simp; (try with_reducible rfl)
                simp only [Act.put, List.getElem_toArray, List.getElem_cons_succ, List.getElem_cons_zero, List.setIfInBounds_toArray, List.set_cons_succ, List.set_cons_zero]
                refine wpAnyL_take (i := 5) (f0 := 19) (v := ?_) rfl (by decide +kernel) (by decide +kernel) (by decide +kernel) (by decide +kernel) (by decide +kernel) (fun _ _ _ h => h) (Or.inl ⟨by rfl, ?_⟩) hS31 ?_
                rotate_left
                · intro wS hS; go_simp; (try with_reducible rfl)
                simp only [Act.put, List.getElem_toArray, List.getElem_cons_succ, List.getElem_cons_zero, List.setIfInBounds_toArray, List.set_cons_succ, List.set_cons_zero]
                refine wpAnyL_take (i := 6) (f0 := 19) (v := ?_) rfl (by decide +kernel) (by decide +kernel) (by decide +kernel) (by decide +kernel) (by decide +kernel) (fun _ _ _ h => h) (Or.inl ⟨by rfl, ?_⟩) hS31 ?_
                rotate_left
                · intro wS hS; obtain ⟨z0, z1, z2, z3, z4, z5, z6, z7, z8, z9⟩ := jCells10 (HR10.out _ hS.bel); go_simp; (try with_reducible rfl)
                simp only [Act.put, List.getElem_toArray, List.getElem_cons_succ, List.getElem_cons_zero, List.setIfInBounds_toArray, List.set_cons_succ, List.set_cons_zero]
                refine wpAnyL_take (i := 7) (f0 := 19) (v := ?_) rfl (by decide +kernel) (by decide +kernel) (by decide +kernel) (by decide +kernel) (by decide +kernel) (fun _ _ _ h => h) (Or.inl ⟨by rfl, ?_⟩) hS31 ?_
                rotate_left
                · intro wS hS; go_simp; (try with_reducible rfl)
                simp only [Act.put, List.getElem_toArray, List.getElem_cons_succ, List.getElem_cons_zero, List.setIfInBounds_toArray, List.set_cons_succ, List.set_cons_zero]
                refine wpAnyL_take (i := 8) (f0 := 19) (v := ?_) rfl (by decide +kernel) (by decide +kernel) (by decide +kernel) (by decide +kernel) (by decide +kernel) (fun _ _ _ h => h) (Or.inl ⟨by rfl, ?_⟩) hS31 ?_
                rotate_left
                · intro wS hS; go_simp; (try with_reducible rfl)
                simp only [Act.put, List.getElem_toArray, List.getElem_cons_succ, List.getElem_cons_zero, List.setIfInBounds_toArray, List.set_cons_succ, List.set_cons_zero]
                refine wpAnyL_take (i := 9) (f0 := 19) (v := undef) rfl (by decide +kernel) (by decide +kernel) (by decide +kernel) (by decide +kernel) (by decide +kernel) (fun _ _ _ h => h) (Or.inr ⟨by rfl, rfl⟩) hS31 ?_
                simp only [Act.put, List.getElem_toArray, List.getElem_cons_succ, List.getElem_cons_zero, List.setIfInBounds_toArray, List.set_cons_succ, List.set_cons_zero]
                refine wpAnyL_take (i := 10) (f0 := 19) (v := undef) rfl (by decide +kernel) (by decide +kernel) (by decide +kernel) (by decide +kernel) (by decide +kernel) (fun _ _ _ h => h) (Or.inr ⟨by rfl, rfl⟩) hS31 ?_
                simp only [Act.put, List.getElem_toArray, List.getElem_cons_succ, List.getElem_cons_zero, List.setIfInBounds_toArray, List.set_cons_succ, List.set_cons_zero]
                refine wpAnyL_take (i := 11) (f0 := 19) (v := undef) rfl (by decide +kernel) (by decide +kernel) (by decide +kernel) (by decide +kernel) (by decide +kernel) (fun _ _ _ h => h) (Or.inr ⟨by rfl, rfl⟩) hS31 ?_
                simp only [Act.put, List.getElem_toArray, List.getElem_cons_succ, List.getElem_cons_zero, List.setIfInBounds_toArray, List.set_cons_succ, List.set_cons_zero]
                refine wpAnyL_take (i := 12) (f0 := 19) (v := undef) rfl (by decide +kernel) (by decide +kernel) (by decide +kernel) (by decide +kernel) (by decide +kernel) (fun _ _ _ h => h) (Or.inr ⟨by rfl, rfl⟩) hS31 ?_
                simp only [Act.put, List.getElem_toArray, List.getElem_cons_succ, List.getElem_cons_zero, List.setIfInBounds_toArray, List.set_cons_succ, List.set_cons_zero]
                refine wpAnyL_take (i := 13) (f0 := 19) (v := undef) rfl (by decide +kernel) (by decide +kernel) (by decide +kernel) (by decide +kernel) (by decide +kernel) (fun _ _ _ h => h) (Or.inr ⟨by rfl, rfl⟩) hS31 ?_
                simp only [Act.put, List.getElem_toArray, List.getElem_cons_succ, List.getElem_cons_zero, List.setIfInBounds_toArray, List.set_cons_succ, List.set_cons_zero]
                refine wpAnyL_take (i := 14) (f0 := 19) (v := undef) rfl (by decide +kernel) (by decide +kernel) (by decide +kernel) (by decide +kernel) (by decide +kernel) (fun _ _ _ h => h) (Or.inr ⟨by rfl, rfl⟩) hS31 ?_
                simp only [Act.put, List.getElem_toArray, List.getElem_cons_succ, List.getElem_cons_zero, List.setIfInBounds_toArray, List.set_cons_succ, List.set_cons_zero]
                refine wpAnyL_take (i := 15) (f0 := 19) (v := undef) rfl (by decide +kernel) (by decide +kernel) (by decide +kernel) (by decide +kernel) (by decide +kernel) (fun _ _ _ h => h) (Or.inr ⟨by rfl, rfl⟩) hS31 ?_
                simp only [Act.put, List.getElem_toArray, List.getElem_cons_succ, List.getElem_cons_zero, List.setIfInBounds_toArray, List.set_cons_succ, List.set_cons_zero]
                refine wpAnyL_take (i := 16) (f0 := 19) (v := ?_) rfl (by decide +kernel) (by decide +kernel) (by decide +kernel) (by decide +kernel) (by decide +kernel) (fun _ _ _ h => h) (Or.inl ⟨by rfl, ?_⟩) hS31 ?_
                rotate_left
                · intro wS hS; go_simp; (try with_reducible rfl)
                simp only [Act.put, List.getElem_toArray, List.getElem_cons_succ, List.getElem_cons_zero, List.setIfInBounds_toArray, List.set_cons_succ, List.set_cons_zero]
                refine wpAnyL_done (by decide +kernel) ?_ _
                refine NoPanic.normal ?_
                clear hit
                go_wp2
                go_roundw
                case rel => exact ⟨j + 1, by omega, by go_num, hS31⟩
                case measure => simp [intOf]; omega
              · have hit : ∀ W, (binOp .eql 26 (.agg #[.int .i64 q2.kind, .string q2.id, .string q2.parent, .string q2.number, .string q2.north, .string q2.south, .bool q2.gone]) (.agg #[.int .i64 p.it.kind, .string p.it.id, .string p.it.parent, .string p.it.number, .string p.it.north, .string p.it.south, .bool p.it.gone])).run Tryz.prog W = .ok (.bool false) W := fun W => by
                  have := item_eql W q2 p.it
                  rw [show sameI q2 p.it = false from Bool.eq_false_iff.2 fun h => heq ((sameI_iff q2 p.it).1 h)] at this
                  exact this
                have HNE := hide heq
                clear heq
                go_upto_region 21 with (fail)
                refine wp_region_noPanic ?_
                refine wp_region_L (S30 wc lb p A9 pn c9 other) 17 hmx ?_
                have hdr := (Below.refl wr.heap.size wr).drew
                have hS41 : (S30 wc lb p A9 pn c9 other) wr.drew := hS.below hdr
                clear hdr hS
                generalize wr.drew = w41 at *
                refine wpAnyL_take (i := 0) (f0 := 19) (v := ?_) rfl (by decide +kernel) (by decide +kernel) (by decide +kernel) (by decide +kernel) (by decide +kernel) (fun _ _ _ h => h) (Or.inl ⟨by rfl, ?_⟩) hS41 ?_
                rotate_left
                · intro wS hS; go_simp; (try with_reducible rfl)
                simp only [Act.put, List.getElem_toArray, List.getElem_cons_zero, List.setIfInBounds_toArray, List.set_cons_succ, List.set_cons_zero]
                refine wpAnyL_take (i := 1) (f0 := 19) (v := ?_) rfl (by decide +kernel) (by decide +kernel) (by decide +kernel) (by decide +kernel) (by decide +kernel) (fun _ _ _ h => h) (Or.inl ⟨by rfl, ?_⟩) hS41 ?_
                rotate_left
                · intro wS hS; go_simp; (try with_reducible rfl)
                simp only [Act.put, List.getElem_toArray, List.getElem_cons_succ, List.getElem_cons_zero, List.setIfInBounds_toArray, List.set_cons_succ, List.set_cons_zero]
                refine wpAnyL_take (i := 2) (f0 := 19) (v := ?_) rfl (by decide +kernel) (by decide +kernel) (by decide +kernel) (by decide +kernel) (by decide +kernel) (fun _ _ _ h => h) (Or.inl ⟨by rfl, ?_⟩) hS41 ?_
                rotate_left
                · intro wS hS; go_simp; (try with_reducible rfl)
                simp only [Act.put, List.getElem_toArray, List.getElem_cons_succ, List.getElem_cons_zero, List.setIfInBounds_toArray, List.set_cons_succ, List.set_cons_zero]
                refine wpAnyL_take (i := 3) (f0 := 19) (v := ?_) rfl (by decide +kernel) (by decide +kernel) (by decide +kernel) (by decide +kernel) (by decide +kernel) (fun _ _ _ h => h) (Or.inl ⟨by rfl, ?_⟩) hS41 ?_
                rotate_left
                · intro wS hS; go_simp; (try with_reducible rfl)
                simp only [Act.put, List.getElem_toArray, List.getElem_cons_succ, List.getElem_cons_zero, List.setIfInBounds_toArray, List.set_cons_succ, List.set_cons_zero]
                refine wpAnyL_take (i := 4) (f0 := 19) (v := ?_) rfl (by decide +kernel) (by decide +kernel) (by decide +kernel) (by decide +kernel) (by decide +kernel) (fun _ _ _ h => h) (Or.inl ⟨by rfl, ?_⟩) hS41 ?_
                rotate_left
                · intro wS hS; obtain ⟨x0, x1, x2, x3, x4, x5, x6, x7, x8, x9⟩ := HCE.out _ j q2 hS.row HQ2.out; go_simp; (try with_reducible rfl)
                simp only [Act.put, List.getElem_toArray, List.getElem_cons_succ, List.getElem_cons_zero, List.setIfInBounds_toArray, List.set_cons_succ, List.set_cons_zero]
                refine wpAnyL_take (i := 5) (f0 := 19) (v := ?_) rfl (by decide +kernel) (by decide +kernel) (by decide +kernel) (by decide +kernel) (by decide +kernel) (fun _ _ _ h => h) (Or.inl ⟨by rfl, ?_⟩) hS41 ?_
                rotate_left
                · intro wS hS; go_simp; (try with_reducible rfl)
                simp only [Act.put, List.getElem_toArray, List.getElem_cons_succ, List.getElem_cons_zero, List.setIfInBounds_toArray, List.set_cons_succ, List.set_cons_zero]
                refine wpAnyL_take (i := 6) (f0 := 19) (v := ?_) rfl (by decide +kernel) (by decide +kernel) (by decide +kernel) (by decide +kernel) (by decide +kernel) (fun _ _ _ h => h) (Or.inl ⟨by rfl, ?_⟩) hS41 ?_
                rotate_left
                · intro wS hS; obtain ⟨z0, z1, z2, z3, z4, z5, z6, z7, z8, z9⟩ := jCells10 (HR10.out _ hS.bel); go_simp; (try with_reducible rfl)
                simp only [Act.put, List.getElem_toArray, List.getElem_cons_succ, List.getElem_cons_zero, List.setIfInBounds_toArray, List.set_cons_succ, List.set_cons_zero]
                refine wpAnyL_take (i := 7) (f0 := 19) (v := ?_) rfl (by decide +kernel) (by decide +kernel) (by decide +kernel) (by decide +kernel) (by decide +kernel) (fun _ _ _ h => h) (Or.inl ⟨by rfl, ?_⟩) hS41 ?_
                rotate_left
                · intro wS hS; go_simp; (try with_reducible rfl)
                simp only [Act.put, List.getElem_toArray, List.getElem_cons_succ, List.getElem_cons_zero, List.setIfInBounds_toArray, List.set_cons_succ, List.set_cons_zero]
                refine wpAnyL_take (i := 8) (f0 := 19) (v := ?_) rfl (by decide +kernel) (by decide +kernel) (by decide +kernel) (by decide +kernel) (by decide +kernel) (fun _ _ _ h => h) (Or.inl ⟨by rfl, ?_⟩) hS41 ?_
                rotate_left
                · intro wS hS; go_simp; (try with_reducible rfl)
                simp only [Act.put, List.getElem_toArray, List.getElem_cons_succ, List.getElem_cons_zero, List.setIfInBounds_toArray, List.set_cons_succ, List.set_cons_zero]
                refine wpAnyL_take (i := 9) (f0 := 19) (v := ?_) rfl (by decide +kernel) (by decide +kernel) (by decide +kernel) (by decide +kernel) (by decide +kernel) (fun _ _ _ h => h) (Or.inl ⟨by rfl, ?_⟩) hS41 ?_
                rotate_left
                · intro wS hS; go_simp; (try with_reducible rfl)
                simp only [Act.put, List.getElem_toArray, List.getElem_cons_succ, List.getElem_cons_zero, List.setIfInBounds_toArray, List.set_cons_succ, List.set_cons_zero]
                refine wpAnyL_take (i := 10) (f0 := 19) (v := ?_) rfl (by decide +kernel) (by decide +kernel) (by decide +kernel) (by decide +kernel) (by decide +kernel) (fun _ _ _ h => h) (Or.inl ⟨by rfl, ?_⟩) hS41 ?_
                rotate_left
                · intro wS hS; go_simp; (try with_reducible rfl)
                simp only [Act.put, List.getElem_toArray, List.getElem_cons_succ, List.getElem_cons_zero, List.setIfInBounds_toArray, List.set_cons_succ, List.set_cons_zero]
                refine wpAnyL_take (i := 11) (f0 := 19) (v := ?_) rfl (by decide +kernel) (by decide +kernel) (by decide +kernel) (by decide +kernel) (by decide +kernel) (fun _ _ _ h => h) (Or.inl ⟨by rfl, ?_⟩) hS41 ?_
                rotate_left
                · intro wS hS; go_simp; (try with_reducible rfl)
                simp only [Act.put, List.getElem_toArray, List.getElem_cons_succ, List.getElem_cons_zero, List.setIfInBounds_toArray, List.set_cons_succ, List.set_cons_zero]
                refine wpAnyL_take (i := 12) (f0 := 19) (v := ?_) rfl (by decide +kernel) (by decide +kernel) (by decide +kernel) (by decide +kernel) (by decide +kernel) (fun _ _ _ h => h) (Or.inl ⟨by rfl, ?_⟩) hS41 ?_
                rotate_left
                · intro wS hS; go_simp; (try with_reducible rfl)
                simp only [Act.put, List.getElem_toArray, List.getElem_cons_succ, List.getElem_cons_zero, List.setIfInBounds_toArray, List.set_cons_succ, List.set_cons_zero]
                refine wpAnyL_take (i := 13) (f0 := 19) (v := ?_) rfl (by decide +kernel) (by decide +kernel) (by decide +kernel) (by decide +kernel) (by decide +kernel) (fun _ _ _ h => h) (Or.inl ⟨by rfl, ?_⟩) hS41 ?_
                rotate_left
                · intro wS hS; obtain ⟨x0, x1, x2, x3, x4, x5, x6, x7, x8, x9⟩ := HCE.out _ j q2 hS.row HQ2.out; go_simp; (try with_reducible rfl)
                simp only [Act.put, List.getElem_toArray, List.getElem_cons_succ, List.getElem_cons_zero, List.setIfInBounds_toArray, List.set_cons_succ, List.set_cons_zero]
                refine wpAnyL_one (i := 14) (by decide +kernel) (by rfl) (fun K hK => ?_)
                rw [if_pos (by rfl)]
                go_simp
                refine (pcheck_of R ⟨p.count, p.idx, ⟨q2.kind, q2.id, q2.parent, q2.number, q2.north, q2.south, q2.gone⟩, p.path⟩ A9 pn c9 HPN.out (by omega) HP2.out HQZ.out w41 (HS2.out _ hS41.bel).env (HST.out _ hS41.bel) C HC.out).mono ?_
                rintro e w42 ⟨rfl, hx42⟩
                have hS42 : (S30 wc lb p A9 pn c9 other) w42 := hS41.below hx42
                refine hK.out _ _ (Or.inr hS42) ?_
                clear hK K hS41 hx42
                try simp only [Act.put, List.getElem_toArray, List.getElem_cons_succ, List.getElem_cons_zero, List.setIfInBounds_toArray, List.set_cons_succ, List.set_cons_zero]
                refine wpAnyL_take (i := 15) (f0 := 19) (v := ?_) rfl (by decide +kernel) (by decide +kernel) (by decide +kernel) (by decide +kernel) (by decide +kernel) (fun _ _ _ h => h) (Or.inl ⟨by rfl, ?_⟩) hS42 ?_
                rotate_left
                · intro wS hS; go_simp; (try with_reducible rfl)
                simp only [Act.put, List.getElem_toArray, List.getElem_cons_succ, List.getElem_cons_zero, List.setIfInBounds_toArray, List.set_cons_succ, List.set_cons_zero]
                refine wpAnyL_take (i := 16) (f0 := 19) (v := ?_) rfl (by decide +kernel) (by decide +kernel) (by decide +kernel) (by decide +kernel) (by decide +kernel) (fun _ _ _ h => h) (Or.inl ⟨by rfl, ?_⟩) hS42 ?_
                rotate_left
                · intro wS hS; go_simp; (try with_reducible rfl)
                simp only [Act.put, List.getElem_toArray, List.getElem_cons_succ, List.getElem_cons_zero, List.setIfInBounds_toArray, List.set_cons_succ, List.set_cons_zero]
                refine wpAnyL_done (by decide +kernel) ?_ _
                refine NoPanic.normal ?_
                clear hit
                cases C with
                | false =>
                  go_wp2
                  go_roundw
                  case rel => exact ⟨j + 1, by omega, by go_num, hS42⟩
                  case measure => simp [intOf]; omega
                | true =>
                  have hsh := HOA.out q2 HQZ.out HNE.out HC.out
                  obtain ⟨LF, hLF⟩ : ∃ LF, Dg.leafI q2 = LF := ⟨_, rfl⟩
                  rw [hLF] at hsh
                  have HLF := hide hLF
                  have lfz : LF.size ≤ 1048576 := by rw [← hLF]; exact leafI_size2 HQZ.out
                  have k1 := texts_len m L HM.out
                  have k3 := length_le m q
                  have k2 : 1 ≤ (Dg.pathTexts m q LF p.path.reverse).length ∧ (Dg.pathTexts m q LF p.path.reverse).length ≤ 1001 := by rw [pt_len m q LF p.path.reverse (by omega) hqm]; have := HPL.out; omega
                  have HMM := hide (mem_app (texts_size m L HM.out HLZ.out) (pt_size m q LF p.path.reverse lfz (fun s h => HP2.out s (List.mem_reverse.1 h))))
                  have HLFZ := hide lfz
                  have HT1 := hide (fun (W : World) (s : Strs W W.heap.size A7 L) => texts_any m A7 c7 L W HM.out hc7 (by omega) HLZ.out s)
                  have HT2 := hide (fun (W : World) (s : Strs W W.heap.size A9 p.path) => rpt_any m q A9 c9 pn LF p.path W HPN.out HPL.out.symm (by omega) hqm (by omega) hc9 HLFZ.out HP2.out s)
                  have HSH := hide hsh
                  clear hsh hLF lfz
                  generalize Dg.texts L = T1 at *
                  generalize Dg.pathTexts m q LF p.path.reverse = T2 at *
                  go_upto_region 22 with (fail)
                  refine wp_region_noPanic ?_
                  refine wp_region_L (S30 wc lb p A9 pn c9 other) 18 hmx ?_
                  have hdr := (Below.refl w42.heap.size w42).drew
                  have hS61 : (S30 wc lb p A9 pn c9 other) w42.drew := hS42.below hdr
                  clear hdr hS42
                  generalize w42.drew = w61 at *
                  refine wpAnyL_take (i := 0) (f0 := 20) (v := ?_) rfl (by decide +kernel) (by decide +kernel) (by decide +kernel) (by decide +kernel) (by decide +kernel) (fun _ _ _ h => h) (Or.inl ⟨by rfl, ?_⟩) hS61 ?_
                  rotate_left
                  · intro wS hS; go_simp; (try with_reducible rfl)
                  simp only [Act.put, List.getElem_toArray, List.getElem_cons_zero, List.setIfInBounds_toArray, List.set_cons_succ, List.set_cons_zero]
                  refine wpAnyL_take (i := 2) (f0 := 20) (v := ?_) rfl (by decide +kernel) (by decide +kernel) (by decide +kernel) (by decide +kernel) (by decide +kernel) (fun _ _ _ h => h) (Or.inl ⟨by rfl, ?_⟩) hS61 ?_
                  rotate_left
                  · intro wS hS; go_simp; (try with_reducible rfl)
                  simp only [Act.put, List.getElem_toArray, List.getElem_cons_succ, List.getElem_cons_zero, List.setIfInBounds_toArray, List.set_cons_succ, List.set_cons_zero]
                  refine wpAnyL_take (i := 3) (f0 := 20) (v := ?_) rfl (by decide +kernel) (by decide +kernel) (by decide +kernel) (by decide +kernel) (by decide +kernel) (fun _ _ _ h => h) (Or.inl ⟨by rfl, ?_⟩) hS61 ?_
                  rotate_left
                  · intro wS hS; obtain ⟨z0, z1, z2, z3, z4, z5, z6, z7, z8, z9⟩ := jCells10 (HR10.out _ hS.bel); rw [HPC.out] at z0; rw [HPI.out] at z1; go_simp; (try with_reducible rfl)
                  simp only [Act.put, List.getElem_toArray, List.getElem_cons_succ, List.getElem_cons_zero, List.setIfInBounds_toArray, List.set_cons_succ, List.set_cons_zero]
                  refine wpAnyL_take (i := 4) (f0 := 20) (v := ?_) rfl (by decide +kernel) (by decide +kernel) (by decide +kernel) (by decide +kernel) (by decide +kernel) (fun _ _ _ h => h) (Or.inl ⟨by rfl, ?_⟩) hS61 ?_
                  rotate_left
                  · intro wS hS; go_simp; (try with_reducible rfl)
                  simp only [Act.put, List.getElem_toArray, List.getElem_cons_succ, List.getElem_cons_zero, List.setIfInBounds_toArray, List.set_cons_succ, List.set_cons_zero]
                  refine wpAnyL_take (i := 5) (f0 := 20) (v := ?_) rfl (by decide +kernel) (by decide +kernel) (by decide +kernel) (by decide +kernel) (by decide +kernel) (fun _ _ _ h => h) (Or.inl ⟨by rfl, ?_⟩) hS61 ?_
                  rotate_left
                  · intro wS hS; obtain ⟨z0, z1, z2, z3, z4, z5, z6, z7, z8, z9⟩ := jCells10 (HR10.out _ hS.bel); rw [HPC.out] at z0; rw [HPI.out] at z1; go_simp; (try with_reducible rfl)
                  simp only [Act.put, List.getElem_toArray, List.getElem_cons_succ, List.getElem_cons_zero, List.setIfInBounds_toArray, List.set_cons_succ, List.set_cons_zero]
                  refine wpAnyL_take (i := 6) (f0 := 20) (v := ?_) rfl (by decide +kernel) (by decide +kernel) (by decide +kernel) (by decide +kernel) (by decide +kernel) (fun _ _ _ h => h) (Or.inl ⟨by rfl, ?_⟩) hS61 ?_
                  rotate_left
                  · intro wS hS; go_simp; (try with_reducible rfl)
                  simp only [Act.put, List.getElem_toArray, List.getElem_cons_succ, List.getElem_cons_zero, List.setIfInBounds_toArray, List.set_cons_succ, List.set_cons_zero]
                  refine wpAnyL_take (i := 7) (f0 := 20) (v := ?_) rfl (by decide +kernel) (by decide +kernel) (by decide +kernel) (by decide +kernel) (by decide +kernel) (fun _ _ _ h => h) (Or.inl ⟨by rfl, ?_⟩) hS61 ?_
                  rotate_left
                  · intro wS hS; go_simp; (try with_reducible rfl)
                  simp only [Act.put, List.getElem_toArray, List.getElem_cons_succ, List.getElem_cons_zero, List.setIfInBounds_toArray, List.set_cons_succ, List.set_cons_zero]
                  refine wpAnyL_take (i := 8) (f0 := 20) (v := ?_) rfl (by decide +kernel) (by decide +kernel) (by decide +kernel) (by decide +kernel) (by decide +kernel) (fun _ _ _ h => h) (Or.inl ⟨by rfl, ?_⟩) hS61 ?_
                  rotate_left
                  · intro wS hS; go_simp; (try with_reducible rfl)
                  simp only [Act.put, List.getElem_toArray, List.getElem_cons_succ, List.getElem_cons_zero, List.setIfInBounds_toArray, List.set_cons_succ, List.set_cons_zero]
                  refine wpAnyL_take (i := 9) (f0 := 20) (v := ?_) rfl (by decide +kernel) (by decide +kernel) (by decide +kernel) (by decide +kernel) (by decide +kernel) (fun _ _ _ h => h) (Or.inl ⟨by rfl, ?_⟩) hS61 ?_
                  rotate_left
                  · intro wS hS; go_simp; (try with_reducible rfl)
                  simp only [Act.put, List.getElem_toArray, List.getElem_cons_succ, List.getElem_cons_zero, List.setIfInBounds_toArray, List.set_cons_succ, List.set_cons_zero]
                  refine wpAnyL_take (i := 10) (f0 := 20) (v := ?_) rfl (by decide +kernel) (by decide +kernel) (by decide +kernel) (by decide +kernel) (by decide +kernel) (fun _ _ _ h => h) (Or.inl ⟨by rfl, ?_⟩) hS61 ?_
                  rotate_left
                  · intro wS hS; obtain ⟨x0, x1, x2, x3, x4, x5, x6, x7, x8, x9⟩ := HCE.out _ j q2 hS.row HQ2.out; go_simp; (try with_reducible rfl)
                  simp only [Act.put, List.getElem_toArray, List.getElem_cons_succ, List.getElem_cons_zero, List.setIfInBounds_toArray, List.set_cons_succ, List.set_cons_zero]
                  refine wpAnyL_take (i := 12) (f0 := 20) (v := ?_) rfl (by decide +kernel) (by decide +kernel) (by decide +kernel) (by decide +kernel) (by decide +kernel) (fun _ _ _ h => h) (Or.inl ⟨by rfl, ?_⟩) hS61 ?_
                  rotate_left
                  · intro wS hS; go_simp; (try with_reducible rfl)
                  simp only [Act.put, List.getElem_toArray, List.getElem_cons_succ, List.getElem_cons_zero, List.setIfInBounds_toArray, List.set_cons_succ, List.set_cons_zero]
                  refine wpAnyL_take (i := 13) (f0 := 20) (v := ?_) rfl (by decide +kernel) (by decide +kernel) (by decide +kernel) (by decide +kernel) (by decide +kernel) (fun _ _ _ h => h) (Or.inl ⟨by rfl, ?_⟩) hS61 ?_
                  rotate_left
                  · intro wS hS; obtain ⟨z0, z1, z2, z3, z4, z5, z6, z7, z8, z9⟩ := jCells10 (HR10.out _ hS.bel); go_simp; (try with_reducible rfl)
                  simp only [Act.put, List.getElem_toArray, List.getElem_cons_succ, List.getElem_cons_zero, List.setIfInBounds_toArray, List.set_cons_succ, List.set_cons_zero]
                  refine wpAnyL_one (i := 1) (by decide +kernel) (by rfl) (fun K hK => ?_)
                  rw [if_pos (by rfl)]
                  go_simp
                  refine (HT1.out w61 (HS2.out _ hS61.bel).lis).mono ?_
                  rintro e w62 ⟨⟨ga, ca, rfl, hO1⟩, hx62⟩
                  have hSB := hS61
                  have hcb := hx62
                  have hS62 : (S30 wc lb p A9 pn c9 other) w62 := hS61.below hx62
                  refine hK.out _ _ (Or.inr hS62) ?_
                  clear hK K hS61 hx62
                  try simp only [Act.put, List.getElem_toArray, List.getElem_cons_succ, List.getElem_cons_zero, List.setIfInBounds_toArray, List.set_cons_succ, List.set_cons_zero]
                  refine wpAnyL_one (i := 11) (by decide +kernel) (by rfl) (fun K hK => ?_)
                  rw [if_pos (by rfl)]
                  go_simp
                  refine (rleaf_of q2 (fun s hs => Nat.le_trans (HQZ.out s hs) (by decide)) w62 LF HLF.out).mono ?_
                  rintro e w63 ⟨rfl, hx63⟩
                  replace hO1 := hO1.below hx63
                  replace hcb := bnext hcb hx63
                  have hS63 : (S30 wc lb p A9 pn c9 other) w63 := hS62.below hx63
                  refine hK.out _ _ (Or.inr hS63) ?_
                  clear hK K hS62 hx63
                  try simp only [Act.put, List.getElem_toArray, List.getElem_cons_succ, List.getElem_cons_zero, List.setIfInBounds_toArray, List.set_cons_succ, List.set_cons_zero]
                  refine wpAnyL_one (i := 14) (by decide +kernel) (by rfl) (fun K hK => ?_)
                  rw [if_pos (by rfl)]
                  go_simp
                  refine (HT2.out w63 (HST.out _ hS63.bel)).mono ?_
                  rintro e w64 ⟨⟨v2, rfl, hO2⟩, hx64⟩
                  replace hO1 := hO1.below hx64
                  replace hcb := bnext hcb hx64
                  obtain ⟨gb, cb, rfl, _, _⟩ := hO2.full (by omega)
                  have hS64 : (S30 wc lb p A9 pn c9 other) w64 := hS63.below hx64
                  refine hK.out _ _ (Or.inr hS64) ?_
                  clear hK K hS63 hx64
                  try simp only [Act.put, List.getElem_toArray, List.getElem_cons_succ, List.getElem_cons_zero, List.setIfInBounds_toArray, List.set_cons_succ, List.set_cons_zero]
                  refine wpAnyL_one (i := 15) (by decide +kernel) (by rfl) (fun K hK => ?_)
                  rw [if_pos (by rfl)]
                  refine wp_ad (.tmp 120) (.tmp 133) rfl w61.heap.size _ _ T1 T2 rfl hO1 (some ⟨gb, 0, none⟩) T2.length cb rfl rfl hO2.strs' (by omega) hcb.size ?_
                  intro v3 w65 hO3 hx65 _
                  obtain ⟨A3, c3, rfl, _, hs3⟩ := hO3.strs
                  have hS65 : (S30 wc lb p A9 pn c9 other) w65 := hSB.below (hcb.trans hx65)
                  refine hK.out _ _ (Or.inr hS65) ?_
                  clear hK K hS64 hx65 hcb hSB hO1 hO2
                  try simp only [Act.put, List.getElem_toArray, List.getElem_cons_succ, List.getElem_cons_zero, List.setIfInBounds_toArray, List.set_cons_succ, List.set_cons_zero]
                  refine wpAnyL_one (i := 16) (by decide +kernel) (by rfl) (fun K hK => ?_)
                  rw [if_pos (by rfl)]
                  go_simp
                  refine (shown_any A3 c3 _ (T1 ++ T2) w65 (by rw [List.length_append]) (by omega) (fun s h => Nat.le_trans (HMM.out s h) (by decide)) hs3 HSH.out).mono ?_
                  rintro e w66 ⟨rfl, hx66⟩
                  have hS66 : (S30 wc lb p A9 pn c9 other) w66 := hS65.below hx66
                  refine hK.out _ _ (Or.inr hS66) ?_
                  clear hK K hS65 hx66
                  try simp only [Act.put, List.getElem_toArray, List.getElem_cons_succ, List.getElem_cons_zero, List.setIfInBounds_toArray, List.set_cons_succ, List.set_cons_zero]
                  refine wpAnyL_take (i := 17) (f0 := 20) (v := ?_) rfl (by decide +kernel) (by decide +kernel) (by decide +kernel) (by decide +kernel) (by decide +kernel) (fun _ _ _ h => h) (Or.inl ⟨by rfl, ?_⟩) hS66 ?_
                  rotate_left
                  · intro wS hS; go_simp; (try with_reducible rfl)
                  simp only [Act.put, List.getElem_toArray, List.getElem_cons_succ, List.getElem_cons_zero, List.setIfInBounds_toArray, List.set_cons_succ, List.set_cons_zero]
                  refine wpAnyL_done (by decide +kernel) ?_ _
                  refine NoPanic.normal ?_
                  go_wp2
                  go_roundw
                  case rel => exact ⟨j + 1, by omega, by go_num, hS66⟩
                  case measure => simp [intOf]; omega
            · obtain rfl : j = 3 := by omega
              have hup := (HS2.out _ hS.bel).up
              go_wp2
              go_ret
              exact ⟨rfl, hup⟩
end Go.Proofs.YtobhpeockinnjaaGreatDoor

