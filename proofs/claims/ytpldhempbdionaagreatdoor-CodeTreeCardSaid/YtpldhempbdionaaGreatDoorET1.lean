/- Walks and laws of this seat, several texts in one: Code9, Code10, C29, C30. No conditions but those that each theorem states. -/
import Derived.Test.YtpldhempbdionaaGreatDoorEA4
/- Validity as the reference has it: ancestors by going up; it is the walk's. In plain Lean, no program in sight. -/
namespace Go.Proofs.YtpldhempbdionaaGreatDoor.Dg
open Go
/-- What is open: each open division is an item that came, whose ancestors are those open before it. -/
def StackOk (l : List It) (vs : List (List ByteArray)) (k : Nat) (op : List ByteArray) : Prop :=
  ∀ (t : Nat) (d : ByteArray), op[t]? = some d → ∃ (j : Nat) (x : It), j < k ∧ l[j]? = some x ∧ x.id = d ∧ x.kind = 1 ∧ vs[j]? = some (op.take t)
theorem stack_take {l : List It} {vs : List (List ByteArray)} {k : Nat} {op : List ByteArray} (h : StackOk l vs k op) (n : Nat) : StackOk l vs k (op.take n) := fun t d ht => by
  have htn : t < n := by
    have := (List.getElem?_eq_some_iff.1 ht).1
    rw [List.length_take] at this
    omega
  rw [List.getElem?_take_of_lt htn] at ht
  obtain ⟨j, x, h1, h2, h3, h4, h5⟩ := h t d ht
  exact ⟨j, x, h1, h2, h3, h4, by rw [List.take_take, Nat.min_eq_left (by omega)]; exact h5⟩
theorem stack_more {l : List It} {vs vs' : List (List ByteArray)} {k : Nat} {op : List ByteArray} (h : StackOk l vs k op) (hv : ∀ j, j < k → vs'[j]? = vs[j]?) : StackOk l vs' (k + 1) op := fun t d ht => by
  obtain ⟨j, x, h1, h2, h3, h4, h5⟩ := h t d ht
  exact ⟨j, x, by omega, h2, h3, h4, by rw [hv j h1]; exact h5⟩
theorem walk_stack {l : List It} : ∀ {k : Nat} (_ : k ≤ l.length) {vs : List (List ByteArray)} {s : Wk}, walkTo l k = some (vs, s) → StackOk l vs k s.op ∧ ∀ j o, vs[j]? = some o → StackOk l vs j o
  | 0, _, vs, s, h => by cases h; exact ⟨fun t d ht => by simp at ht, fun j o ho => by simp at ho⟩
  | k + 1, hk, vs, s, h => by
    have hk' : k < l.length := by omega
    obtain ⟨vs0, s0, o, h1, h2, rfl⟩ := walk_step hk' h
    obtain ⟨a1, a2⟩ := walk_stack (by omega) h1
    have hl := walk_len (by omega) h1
    obtain ⟨_, _, k', _, b4, _, b6⟩ := stepI_some h2
    have hv : ∀ j, j < k → (vs0 ++ [o])[j]? = vs0[j]? := fun j hj => List.getElem?_append_left (by omega)
    have ho : StackOk l (vs0 ++ [o]) (k + 1) o := by rw [b4]; exact stack_more (stack_take a1 k') (fun j hj => by rw [← b4]; exact hv j hj)
    refine ⟨?_, fun j o' ho' => ?_⟩
    · rw [b6]
      split
      · rename_i hkind
        intro t d ht
        rcases Nat.lt_or_ge t o.length with h3 | h3
        · rw [List.getElem?_append_left h3] at ht
          obtain ⟨j, x, c1, c2, c3, c4, c5⟩ := ho t d ht
          exact ⟨j, x, c1, c2, c3, c4, by rw [List.take_append_of_le_length (by omega)]; exact c5⟩
        · have h4 : t = o.length := by
            have := (List.getElem?_eq_some_iff.1 ht).1
            rw [List.length_append, List.length_singleton] at this
            omega
          subst h4
          rw [List.getElem?_append_right (Nat.le_refl _), Nat.sub_self] at ht
          obtain rfl : l[k].id = d := by simpa using ht
          refine ⟨k, l[k], by omega, List.getElem?_eq_getElem hk', rfl, hkind, ?_⟩
          rw [List.getElem?_append_right (by omega), hl, Nat.sub_self, List.take_left]
          rfl
      · exact ho
    · rcases Nat.lt_or_ge j k with h3 | h3
      · rw [List.getElem?_append_left (by omega)] at ho'
        have h5 := a2 j o' ho'
        intro t d ht
        obtain ⟨i, x, c1, c2, c3, c4, c5⟩ := h5 t d ht
        exact ⟨i, x, c1, c2, c3, c4, by rw [hv i (by omega)]; exact c5⟩
      · have h4 : j = k := by
          have := (List.getElem?_eq_some_iff.1 ho').1
          rw [List.length_append, List.length_singleton] at this
          omega
        subst h4
        rw [List.getElem?_append_right (by omega), hl, Nat.sub_self] at ho'
        obtain rfl : o = o' := by simpa using ho'
        rw [b4]
        intro t d ht
        obtain ⟨i, x, c1, c2, c3, c4, c5⟩ := stack_take a1 k' t d ht
        exact ⟨i, x, c1, c2, c3, c4, by rw [← b4, hv i c1]; rw [← b4] at c5; exact c5⟩
/-- The parent's ancestors and the parent: what is open at a visit. -/
theorem visit_up {l : List It} {n : Nat} (hn : n ≤ l.length) {vs : List (List ByteArray)} {s : Wk} (h : walkTo l n = some (vs, s)) {k : Nat} (hk : k < n) : (l[k].parent = nil8 ∧ vs[k]? = some []) ∨ (l[k].parent ≠ nil8 ∧ ∃ (j : Nat) (x : It) (o : List ByteArray), j < k ∧ l[j]? = some x ∧ x.id = l[k].parent ∧ x.kind = 1 ∧ vs[j]? = some o ∧ vs[k]? = some (o ++ [l[k].parent])) := by
  obtain ⟨s1, h1⟩ := walk_le hn h (k + 1) (by omega)
  obtain ⟨vs0, s0, o0, w0, st0, e0⟩ := walk_step (l := l) (k := k) (by omega) h1
  have l0 := walk_len (by omega) w0
  have a0 : (vs.take (k + 1))[k]? = some o0 := by rw [e0, List.getElem?_append_right (by omega), l0]; simp
  rw [List.getElem?_take_of_lt (by omega)] at a0
  obtain ⟨hs, _⟩ := walk_stack (by omega) w0
  obtain ⟨_, _, j, c2, c3, _, _⟩ := stepI_some st0
  unfold kOf at c2
  by_cases hp : l[k].parent = nil8
  · rw [if_pos hp] at c2
    injection c2 with c2
    refine Or.inl ⟨hp, ?_⟩
    rw [a0, c3, ← c2]; rfl
  · rw [if_neg hp] at c2
    split at c2
    · rename_i hin
      injection c2 with c2
      have hf : (s0.op.findIdx fun d => decide (d = l[k].parent)) < s0.op.length := List.findIdx_lt_length_of_exists ⟨_, (inB_iff _ _).1 hin, decide_eq_true rfl⟩
      have hg2 := of_decide_eq_true (List.findIdx_getElem (w := hf))
      generalize (s0.op.findIdx fun d => decide (d = l[k].parent)) = t at *
      obtain ⟨i, x, d1, d2, d3, d4, d5⟩ := hs t l[k].parent (by rw [List.getElem?_eq_getElem hf, hg2])
      refine Or.inr ⟨hp, i, x, s0.op.take t, d1, d2, d3, d4, ?_, ?_⟩
      · have : (vs.take (k + 1))[i]? = some (s0.op.take t) := by rw [e0, List.getElem?_append_left (by omega)]; exact d5
        rw [List.getElem?_take_of_lt (by omega)] at this
        exact this
      · rw [a0, c3, ← c2, List.take_succ_eq_append_getElem hf, hg2]
    · cases c2
/-- The item with a name. -/
def findI (l : List It) (d : ByteArray) : Option It := l.find? fun x => decide (x.id = d)
/-- Going up from a name, the nearest one first. -/
def chainR (l : List It) : Nat → ByteArray → List ByteArray
  | 0, _ => []
  | f + 1, d => if d = nil8 then [] else d :: (match findI l d with | none => [] | some x => chainR l f x.parent)
theorem find_at {l : List It} {n : Nat} (hn : n ≤ l.length) {vs : List (List ByteArray)} {s : Wk} (h : walkTo l n = some (vs, s)) {k : Nat} (hk : k < n) : findI l l[k].id = some l[k] := by
  obtain ⟨_, _, _, h2, _⟩ := visit_at hn h hk
  unfold findI
  have hsp : l = l.take k ++ l[k] :: l.drop (k + 1) := by
    rw [← List.drop_eq_getElem_cons (by omega), List.take_append_drop]
  conv => lhs; arg 2; rw [hsp]
  rw [List.find?_append]
  have hnone : (l.take k).find? (fun x => decide (x.id = l[k].id)) = none := by
    rw [List.find?_eq_none]
    intro x hx hd
    exact h2 (List.mem_map.2 ⟨x, hx, of_decide_eq_true hd⟩)
  rw [hnone, List.find?_cons_of_pos (by simp)]
  rfl
/-- Going up finds what is open. -/
theorem chain_eq {l : List It} {n : Nat} (hn : n ≤ l.length) {vs : List (List ByteArray)} {s : Wk} (h : walkTo l n = some (vs, s)) : ∀ (k : Nat) (_ : k < n) (f : Nat), k < f → ∀ o, vs[k]? = some o → chainR l f l[k].parent = o.reverse := by
  intro k
  induction k using Nat.strongRecOn with
  | _ k ih =>
    intro hk f hf o ho
    obtain ⟨f, rfl⟩ : ∃ g, f = g + 1 := ⟨f - 1, by omega⟩
    rcases visit_up hn h hk with ⟨hp, hv⟩ | ⟨hp, j, x, o1, hj, hx, hid, _, hv1, hv⟩
    · rw [ho] at hv
      injection hv with hv
      rw [chainR, if_pos hp, hv]; rfl
    · rw [ho] at hv
      injection hv with hv
      obtain ⟨hjl, hx2⟩ := List.getElem?_eq_some_iff.1 hx
      have hfi := find_at hn h (k := j) (by omega)
      rw [hx2, hid] at hfi
      have := ih j hj (by omega) f (by omega) o1 hv1
      rw [hx2] at this
      rw [chainR, if_neg hp, hfi, hv, List.reverse_append]
      simp only
      rw [this]
      rfl
end Go.Proofs.YtpldhempbdionaaGreatDoor.Dg
/- Validity as the reference has it equals the walk's, in plain Lean. No program in sight. -/
namespace Go.Proofs.YtpldhempbdionaaGreatDoor.Dg
open Go
/-- The open divisions before the item behind item k. -/
theorem op_behind {l : List It} {k : Nat} (hk : k < l.length) {vs : List (List ByteArray)} {s : Wk} (h : walkTo l (k + 1) = some (vs, s)) : ∃ o, vs[k]? = some o ∧ s.op = if l[k].kind = 1 then o ++ [l[k].id] else o := by
  obtain ⟨vs0, s0, o, w0, st, rfl⟩ := walk_step hk h
  have hl := walk_len (by omega) w0
  obtain ⟨_, _, _, _, _, _, c6⟩ := stepI_some st
  exact ⟨o, by rw [List.getElem?_append_right (by omega), hl, Nat.sub_self]; rfl, c6⟩
/-- Whether an item stands at a right place, by the reference; f is how far it goes up at most. -/
def placeR (l : List It) (f i : Nat) (p : ByteArray) : Bool :=
  if p = nil8 then true else match i with
    | 0 => false
    | j + 1 => match l[j]? with
      | none => false
      | some x => (decide (x.id = p) || inB (chainR l f x.parent) p) && (match findI l p with | none => false | some y => decide (y.kind = 1))
theorem place_eq {l : List It} {i : Nat} (hi : i ≤ l.length) {vs : List (List ByteArray)} {s : Wk} (h : walkTo l i = some (vs, s)) (f : Nat) (hf : i < f) (p : ByteArray) : placeR l f i p = (kOf s.op p).isSome := by
  unfold placeR kOf
  by_cases hp : p = nil8
  · rw [if_pos hp, if_pos hp]; rfl
  · rw [if_neg hp, if_neg hp]
    cases i with
    | zero =>
      cases h
      simp [inB]
    | succ j =>
      have hj : j < l.length := by omega
      obtain ⟨o, ho, hop⟩ := op_behind hj h
      have hch := chain_eq (by omega) h j (by omega) f (by omega) o ho
      obtain ⟨hst, _⟩ := walk_stack (by omega) h
      simp only [List.getElem?_eq_getElem hj]
      rw [hch]
      have hrev : inB o.reverse p = inB o p := by
        cases hb : inB o p with
        | true => exact (inB_iff _ _).2 (List.mem_reverse.2 ((inB_iff _ _).1 hb))
        | false => exact (inB_no _ _).2 fun hm => (inB_no _ _).1 hb (List.mem_reverse.1 hm)
      rw [hrev]
      -- what is found for a name that is open
      have hfo : ∀ d, d ∈ s.op → ∃ y, findI l d = some y ∧ y.kind = 1 := fun d hd => by
        obtain ⟨t, ht, rfl⟩ := List.mem_iff_getElem.1 hd
        obtain ⟨k, x, c1, c2, c3, c4, _⟩ := hst t s.op[t] (List.getElem?_eq_getElem ht)
        obtain ⟨hkl, c2'⟩ := List.getElem?_eq_some_iff.1 c2
        have := find_at (by omega) h (k := k) (by omega)
        rw [c2', c3] at this
        exact ⟨x, this, c4⟩
      by_cases hm : p ∈ s.op
      · obtain ⟨y, hy, hk⟩ := hfo p hm
        rw [if_pos ((inB_iff _ _).2 hm), hy]
        simp only [hk, decide_true, Bool.and_true, Option.isSome_some]
        rw [hop] at hm
        split at hm
        · rcases List.mem_append.1 hm with h1 | h1
          · rw [(inB_iff _ _).2 h1, Bool.or_true]
          · rw [decide_eq_true (List.mem_singleton.1 h1).symm, Bool.true_or]
        · rw [(inB_iff _ _).2 hm, Bool.or_true]
      · rw [if_neg (by rw [(inB_no _ _).2 hm]; decide)]
        simp only [Option.isSome_none]
        rw [hop] at hm
        have hno : inB o p = false := (inB_no _ _).2 fun h1 => hm (by split <;> first | exact List.mem_append_left _ h1 | exact h1)
        rw [hno, Bool.or_false]
        by_cases hid : l[j].id = p
        · have hk : l[j].kind ≠ 1 := fun e => hm (by rw [if_pos e, hid]; simp)
          have := find_at (by omega) h (k := j) (by omega)
          rw [hid] at this
          rw [this]
          simp [hk]
        · rw [decide_eq_false hid, Bool.false_and]
/-- An item, by the reference. -/
def okR (l : List It) (f i : Nat) (x : It) : Bool :=
  isNameB x.id && (!(inB ((l.take i).map It.id) x.id) && (isNumB x.number && (!(decide (x.kind = 1) && (!(decide (x.north = nil8)) || (!(decide (x.south = nil8)) || x.gone))) && ((decide (x.kind = 1) || decide (x.kind = 2)) && (decide (x.north.size ≤ 400) && (decide (x.south.size ≤ 400) && placeR l f i x.parent))))))
theorem proper_ref (x : It) : properI x = (isNameB x.id && (isNumB x.number && (!(decide (x.kind = 1) && (!(decide (x.north = nil8)) || (!(decide (x.south = nil8)) || x.gone))) && ((decide (x.kind = 1) || decide (x.kind = 2)) && (decide (x.north.size ≤ 400) && decide (x.south.size ≤ 400)))))) := by
  unfold properI
  by_cases h1 : x.kind = 1
  · rw [if_pos h1]
    by_cases h3 : x.north = nil8
    · by_cases h4 : x.south = nil8
      · have z3 : x.north.size ≤ 400 := by rw [h3]; decide
        have z4 : x.south.size ≤ 400 := by rw [h4]; decide
        rw [decide_eq_true h3, decide_eq_true h4, decide_eq_true h1, decide_eq_true z3, decide_eq_true z4]
        cases isNumB x.number <;> cases isNameB x.id <;> cases x.gone <;> rfl
      · rw [decide_eq_true h3, decide_eq_false h4, decide_eq_true h1]
        cases isNumB x.number <;> cases isNameB x.id <;> simp
    · rw [decide_eq_false h3, decide_eq_true h1]
      cases isNumB x.number <;> cases isNameB x.id <;> simp
  · rw [if_neg h1, decide_eq_false h1]
    by_cases h2 : x.kind = 2
    · rw [if_pos h2, decide_eq_true h2]
      cases isNumB x.number <;> cases isNameB x.id <;> simp
    · rw [if_neg h2, decide_eq_false h2]
      simp
theorem step_ref {l : List It} {i : Nat} (hi : i < l.length) {vs : List (List ByteArray)} {s : Wk} (h : walkTo l i = some (vs, s)) (f : Nat) (hf : i < f) : (stepI s l[i]).isSome = okR l f i l[i] := by
  obtain ⟨h1, _⟩ := walk_seen (by omega) h
  have hseen : inB s.seen l[i].id = inB ((l.take i).map It.id) l[i].id := by
    rw [h1]
    cases hb : inB ((l.take i).map It.id) l[i].id with
    | true => exact (inB_iff _ _).2 (List.mem_reverse.2 ((inB_iff _ _).1 hb))
    | false => exact (inB_no _ _).2 fun hm => (inB_no _ _).1 hb (List.mem_reverse.1 hm)
  have hst : (stepI s l[i]).isSome = (properI l[i] && (!(inB s.seen l[i].id) && (kOf s.op l[i].parent).isSome)) := by
    unfold stepI
    cases hp : properI l[i] with
    | false => rw [if_neg (fun hh => by cases hh.1)]; rfl
    | true =>
      cases hn : inB s.seen l[i].id with
      | true => rw [if_neg (fun hh => by cases hh.2)]; rfl
      | false =>
        rw [if_pos ⟨rfl, rfl⟩]
        cases kOf s.op l[i].parent <;> rfl
  rw [hst, hseen, ← place_eq (by omega) h f hf, proper_ref]
  unfold okR
  cases isNameB l[i].id <;> cases inB ((l.take i).map It.id) l[i].id <;> cases isNumB l[i].number <;> simp [Bool.and_assoc]
/-- Validity, by the reference: all items, in order. -/
def validR (l : List It) : Bool := decide (l.length ≤ 2000) && (List.range l.length).all fun i => match l[i]? with | none => true | some x => okR l (l.length + 1) i x
theorem walk_ref (l : List It) (f : Nat) (hf : l.length < f) : ∀ k ≤ l.length, ((walkTo l k).isSome = true ↔ ∀ i (_ : i < k) (h2 : i < l.length), okR l f i l[i] = true)
  | 0, _ => ⟨fun _ i hi => by omega, fun _ => rfl⟩
  | k + 1, hk => by
    have ih := walk_ref l f hf k (by omega)
    rw [walkTo_succ _ _ (by omega)]
    constructor
    · intro h i hi h2
      cases hw : walkTo l k with
      | none => rw [hw] at h; cases h
      | some p =>
        obtain ⟨vs, s⟩ := p
        rw [hw] at h ih
        by_cases e : i = k
        · subst e
          rw [← step_ref h2 hw f (by omega)]
          simp only at h
          cases hs : stepI s l[i] with
          | none => rw [hs] at h; cases h
          | some q => rfl
        · exact ih.1 rfl i (by omega) h2
    · intro h
      have h0 := ih.2 fun i hi h2 => h i (by omega) h2
      cases hw : walkTo l k with
      | none => rw [hw] at h0; cases h0
      | some p =>
        obtain ⟨vs, s⟩ := p
        have h1 := h k (by omega) (by omega)
        rw [← step_ref (by omega) hw f (by omega)] at h1
        simp only
        cases hs : stepI s l[k] with
        | none => rw [hs] at h1; cases h1
        | some q => obtain ⟨o, s'⟩ := q; rfl
theorem valid_ref (l : List It) : validR l = validC l := by
  have hw := walk_ref l (l.length + 1) (by omega) l.length (Nat.le_refl _)
  unfold validR validC
  rw [Bool.and_comm]
  congr 1
  rw [Bool.eq_iff_iff, hw, List.all_eq_true]
  constructor
  · intro h i hi h2
    have := h i (List.mem_range.2 h2)
    rw [List.getElem?_eq_getElem h2] at this
    exact this
  · intro h i hi
    have h2 := List.mem_range.1 hi
    rw [List.getElem?_eq_getElem h2]
    exact h i h2 h2
end Go.Proofs.YtpldhempbdionaaGreatDoor.Dg
/- The law of the tree in terms of what Below and Under say. No conditions but those that each theorem states. -/
namespace Go.Proofs.YtpldhempbdionaaGreatDoor
open Go Go.RowKit Go.Sort Go.Maps
theorem filter_run {α : Type} (P : α → Bool) : ∀ (zs : List α) (a m : Nat), (∀ (j : Nat) (h : j < zs.length), P zs[j] = decide (a ≤ j ∧ j < a + m)) → zs.filter P = (zs.drop a).take m
  | [], a, m, _ => by simp
  | z :: zs, 0, 0, h => by
    rw [List.take_zero, List.filter_eq_nil_iff]
    intro x hx
    obtain ⟨j, hj, rfl⟩ := List.mem_iff_getElem.1 hx
    rw [h j hj]
    simp
  | z :: zs, 0, m + 1, h => by
    have h0 := h 0 (by simp)
    rw [List.getElem_cons_zero, decide_eq_true (by omega)] at h0
    rw [List.filter_cons_of_pos h0, List.drop_zero, List.take_succ_cons]
    congr 1
    have ih := filter_run P zs 0 m (fun j hj => by
      have := h (j + 1) (by simp; omega)
      rw [List.getElem_cons_succ] at this
      rw [this]
      exact decide_eq_decide.2 (by omega))
    rw [ih, List.drop_zero]
  | z :: zs, a + 1, m, h => by
    have h0 := h 0 (by simp)
    rw [List.getElem_cons_zero, decide_eq_false (by omega)] at h0
    rw [List.filter_cons_of_neg (by rw [h0]; exact Bool.false_ne_true), List.drop_succ_cons]
    exact filter_run P zs a m (fun j hj => by
      have := h (j + 1) (by simp; omega)
      rw [List.getElem_cons_succ] at this
      rw [this]
      exact decide_eq_decide.2 (by omega))
theorem fold_one {α β : Type} (P : α → Prop) [DecidablePred P] (g : α → β) : ∀ (zs : List α) (b : β), (∀ z ∈ zs, ¬ P z) → zs.foldl (fun b z => if P z then g z else b) b = b
  | [], _, _ => rfl
  | z :: zs, b, h => by
    rw [List.foldl_cons, if_neg (h z (List.mem_cons_self ..))]
    exact fold_one P g zs b (fun y hy => h y (List.mem_cons_of_mem _ hy))
theorem fold_at {α β : Type} (P : α → Prop) [DecidablePred P] (g : α → β) (zs : List α) (b : β) (k : Nat) (hk : k < zs.length) (h : P zs[k]) (hn : ∀ (j : Nat) (hj : j < zs.length), k < j → ¬ P zs[j]) : zs.foldl (fun b z => if P z then g z else b) b = g zs[k] := by
  have e : zs = zs.take k ++ zs[k] :: zs.drop (k + 1) := by
    rw [List.getElem_cons_drop, List.take_append_drop]
  conv => lhs; rw [e]
  rw [List.foldl_append, List.foldl_cons, if_pos h]
  refine fold_one P g _ _ fun z hz => ?_
  obtain ⟨j, hj, rfl⟩ := List.mem_iff_getElem.1 hz
  rw [List.length_drop] at hj
  rw [List.getElem_drop]
  exact hn _ (by omega) (by omega)
theorem id_ne_nil {x : Dg.It} (h : Dg.properI x = true) : x.id ≠ Dg.nil8 := fun e => by
  have hn : Dg.isNameB x.id = true := by
    rw [Dg.proper_ref] at h
    simp only [Bool.and_eq_true] at h
    exact h.1
  rw [e] at hn
  revert hn
  decide
/-- Below and Under of a valid code. -/
theorem under_at {l : List Dg.It} (hv : Dg.validC l = true) {k : Nat} (hk : k < l.length) (dv : ByteArray) : ∃ o, (Dg.visits l)[k]? = some o ∧ underC l l[k].id dv = (decide (dv = Dg.nil8) || Dg.inB o dv) := by
  obtain ⟨s, hw, _⟩ := Dg.valid_walk hv
  have hl := Dg.walk_len (Nat.le_refl _) hw
  have hkv : k < (Dg.visits l).length := by rw [hl]; exact hk
  refine ⟨(Dg.visits l)[k], List.getElem?_eq_getElem hkv, ?_⟩
  unfold underC underF
  rw [hv, Bool.true_and]
  have hz : ((Dg.visits l).zip l).length = l.length := by rw [List.length_zip, hl, Nat.min_self]
  have := fold_at (fun p : List ByteArray × Dg.It => p.2.id = l[k].id) (fun p => (decide (dv = Dg.nil8) || Dg.inB p.1 dv)) ((Dg.visits l).zip l) false k (by rw [hz]; exact hk) (by rw [List.getElem_zip]) (fun j hj hkj => by
    rw [List.getElem_zip]
    rw [hz] at hj
    exact fun e => Dg.ids_ne (Nat.le_refl _) hw hkj hj e.symm)
  rw [List.getElem_zip] at this
  exact this
theorem tree_law {l : List Dg.It} (hv : Dg.validC l = true) {i : Nat} (hi : i < l.length) : ∃ m, i + m < l.length ∧ (0 < m → l[i].kind = 1) ∧ belowC l l[i].id = ((l.drop (i + 1)).take m).map Dg.It.id ∧ ∀ (k : Nat) (hk : k < l.length), underC l l[k].id l[i].id = decide (i < k ∧ k ≤ i + m) := by
  obtain ⟨s, hw, _⟩ := Dg.valid_walk hv
  have hl := Dg.walk_len (Nat.le_refl _) hw
  obtain ⟨m, h1, h2, h3⟩ := Dg.below_run (Nat.le_refl _) hw hi
  obtain ⟨_, _, _, _, _, hp⟩ := Dg.visit_at (Nat.le_refl _) hw hi
  have hne := id_ne_nil hp
  have hz : ((Dg.visits l).zip l).length = l.length := by rw [List.length_zip, hl, Nat.min_self]
  refine ⟨m, h1, h2, ?_, fun k hk => ?_⟩
  · unfold belowC belowF
    rw [if_pos hv, filter_run _ _ (i + 1) m (fun j hj => ?_)]
    · rw [List.map_take, List.map_take, List.map_drop, List.map_drop]
      congr 2
      have : (((Dg.visits l).zip l).map fun p => p.2) = l := by
        rw [List.map_snd_zip (by omega)]
      conv => rhs; rw [← this, List.map_map]
      rfl
    · rw [hz] at hj
      have hjv : j < (Dg.visits l).length := by omega
      have := h3 j hj _ (List.getElem?_eq_getElem hjv)
      rw [List.getElem_zip]
      show Dg.inB (Dg.visits l)[j] l[i].id = _
      by_cases hm : l[i].id ∈ (Dg.visits l)[j]
      · rw [(Dg.inB_iff _ _).2 hm]
        have := this.1 hm
        exact (decide_eq_true (by omega)).symm
      · rw [(Dg.inB_no _ _).2 hm]
        exact (decide_eq_false (fun h => hm (this.2 (by omega)))).symm
  · obtain ⟨o, ho, hu⟩ := under_at hv hk l[i].id
    rw [hu, decide_eq_false hne, Bool.false_or]
    have := h3 k hk o ho
    by_cases hm : l[i].id ∈ o
    · rw [(Dg.inB_iff _ _).2 hm]
      exact (decide_eq_true (this.1 hm)).symm
    · rw [(Dg.inB_no _ _).2 hm]
      exact (decide_eq_false (fun h => hm (this.2 h))).symm
theorem under_nil {l : List Dg.It} (hv : Dg.validC l = true) {k : Nat} (hk : k < l.length) : underC l l[k].id Dg.nil8 = true := by
  obtain ⟨o, _, hu⟩ := under_at hv hk Dg.nil8
  rw [hu, decide_eq_true rfl, Bool.true_or]
theorem under_parent {l : List Dg.It} (hv : Dg.validC l = true) {k : Nat} (hk : k < l.length) (hp : l[k].parent ≠ Dg.nil8) : underC l l[k].id l[k].parent = true := by
  obtain ⟨s, hw, _⟩ := Dg.valid_walk hv
  obtain ⟨o, ho, hu⟩ := under_at hv hk l[k].parent
  obtain ⟨o', ho', _, _, h4, _⟩ := Dg.visit_at (Nat.le_refl _) hw hk
  rw [ho] at ho'
  cases ho'
  rw [hu, decide_eq_false hp, Bool.false_or]
  exact (Dg.inB_iff _ _).2 (h4 hp)
theorem below_none {l : List Dg.It} (hv : Dg.validC l = false) (id : ByteArray) : belowC l id = [] := by
  unfold belowC
  rw [if_neg (by rw [hv]; exact Bool.false_ne_true)]
end Go.Proofs.YtpldhempbdionaaGreatDoor
/- CodeTree. No conditions but those that each theorem states. -/
namespace Go.Proofs.YtpldhempbdionaaGreatDoor
open Go Go.RowKit Go.Sort Go.Maps
set_option maxRecDepth 100000 in
set_option maxHeartbeats 16000000 in
theorem law_tree (l : List Dg.It) (A : Option Addr) (n c : Nat) (hl : l.length = n) (hw : ∀ x ∈ l, ItW x) (hn : n ≤ 9223372036854775807) (k0 : Nat) (hk0 : k0 ≤ 255) (w : World) (he : Env w) (hI : Its w w.heap.size A l) :
    Calls Tryz.prog 3 #[.agg #[.slice A n c], .int .u8 k0] w fun e w' => e = .returned (.bool true) ∧ Below w.heap.size w w' := by
  have hx1 := Below.news (Below.refl w.heap.size w) (.cells #[.slice A n c] 24)
  have hrow := heap_alloc_new w (.cells #[.slice A n c] 24)
  have hS1 : CS w.heap.size A n c l none [] (w.alloc (.cells #[.slice A n c] 24)) := ⟨hrow, hI.keep hx1, he.next hx1, Strs.nil _ _ _⟩
  have HL := hide hl; have HW := hide hw
  clear hl hw hrow hI he
  go_enter Tryz.func3, Tryz.ntmps3
  go_wp2_with fail
  generalize w.alloc (.cells #[.slice A n c] 24) = w1 at *
  refine (head_any w1 hS1.env).mono ?_
  rintro e w2 ⟨rfl, hb2⟩
  have hS2 := hS1.below hb2
  have hb := bnext hx1 hb2
  clear hS1 hx1 hb2
  have hc := iCells0 hS2.row
  go_wp2_with fail
  obtain ⟨F, hF⟩ : ∃ F, fewC l 30 = F := ⟨_, rfl⟩
  refine (few1_of l A n c HL.out hn w2 _ rfl hS2.its F hF).mono ?_
  rintro e w3 ⟨rfl, hb3⟩
  have hS3 := hS2.below hb3
  have hb4 := bnext hb hb3
  clear hS2 hb hb3 hc
  have hc := iCells0 hS3.row
  cases F with
  | false =>
    go_wp2_with fail
    refine (few1_of l A n c HL.out hn w3 _ rfl hS3.its false hF).mono ?_
    rintro e w4 ⟨rfl, hb5⟩
    have hb6 := bnext hb4 hb5
    clear hc hF
    go_wp2
    go_ret
    exact ⟨rfl, hb6⟩
  | true =>
    obtain ⟨hn30, hsm⟩ := fewC_spec hF
    rw [HL.out] at hn30
    have HF := hide hF
    have HSM := hide hsm
    clear hF hsm
    go_wp2_with fail
    obtain ⟨V, hV⟩ : ∃ V, Dg.validC l = V := ⟨_, rfl⟩
    refine (Code.valid_of l A n c HL.out HW.out (by omega) w3 hS3.its V hV).mono ?_
    rintro e w4 ⟨rfl, hb5⟩
    have hS4 := hS3.below hb5
    have hb := bnext hb4 hb5
    clear hS3 hb4 hb5 hc
    have hc := iCells0 hS4.row
    cases V with
    | false =>
      go_wp2_with fail
      refine (few1_of l A n c HL.out hn w4 _ rfl hS4.its true HF.out).mono ?_
      rintro e w5 ⟨rfl, hb5⟩
      have hS5 := hS4.below hb5
      have hb6 := bnext hb hb5
      clear hS4 hb hb5 hc
      have hc := iCells0 hS5.row
      go_wp2_with fail
      refine (Code.valid_of l A n c HL.out HW.out (by omega) w5 hS5.its false hV).mono ?_
      rintro e w6 ⟨rfl, hb7⟩
      have hS6 := hS5.below hb7
      have hb8 := bnext hb6 hb7
      clear hS5 hb6 hb7 hc
      have hc := iCells0 hS6.row
      go_wp2_with fail
      refine (Code.below_of l A n c HL.out HW.out (by omega) ⟨#[112, 49]⟩ w6 hS6.its [] (below_none hV _)).mono ?_
      rintro e w7 ⟨⟨A7, c7, rfl, _, _⟩, hb9⟩
      have hb10 := bnext hb8 hb9
      clear hc hV hS6 hb8 hb9
      go_wp2
      go_ret
      exact ⟨rfl, hb10⟩
    | true =>
      have HV := hide hV
      clear hV
      by_cases hn0 : n = 0
      · subst hn0
        go_wp2_with fail
        refine (few1_of l A 0 c HL.out hn w4 _ rfl hS4.its true HF.out).mono ?_
        rintro e w5 ⟨rfl, hb5⟩
        have hS5 := hS4.below hb5
        have hb6 := bnext hb hb5
        clear hS4 hb hb5 hc
        have hc := iCells0 hS5.row
        go_wp2_with fail
        refine (Code.valid_of l A 0 c HL.out HW.out (by omega) w5 hS5.its true HV.out).mono ?_
        rintro e w6 ⟨rfl, hb7⟩
        have hb8 := bnext hb6 hb7
        clear hS5 hb6 hb7 hc
        go_wp2
        go_ret
        exact ⟨rfl, hb8⟩
      · have hi1 : ¬ (n : Int) = 0 := by omega
        obtain ⟨i, hi⟩ : ∃ i, k0 % n = i := ⟨_, rfl⟩
        have hin : i < n := by rw [← hi]; exact Nat.mod_lt _ (by omega)
        have him : (k0 : Int).tmod (n : Int) = (i : Int) := by rw [← hi]; rfl
        have hz : ((n : Int) == 0) = false := beq_eq_false_iff_ne.2 hi1
        go_upto_region 5 with (fail)
        have hil : i < l.length := by rw [HL.out]; exact hin
        obtain ⟨b, off, rfl⟩ := hS4.its.some hil
        obtain ⟨x, hx⟩ : ∃ x, l[i] = x := ⟨_, rfl⟩
        obtain ⟨m, hm1, hm2, hm3, hm4⟩ := tree_law HV.out hil
        rw [hx] at hm2 hm3
        have HX := hide hx
        obtain ⟨L, hL⟩ : ∃ L, belowC l x.id = L := ⟨_, rfl⟩
        rw [hL] at hm3
        have hLm : L.length = m := by rw [hm3, List.length_map, List.length_take, List.length_drop]; omega
        have HM2 := hide hm2; have HM3 := hide hm3; have HM4 := hide hm4
        have hmn : i + m < n := by rw [← HL.out]; exact hm1
        clear hx hm2 hm3 hm4 hm1 hi him hi1 hz
        have hi0 : (0 : Int) ≤ (i : Int) := by omega
        have hic : (i : Int) < (n : Int) := by omega
        have hmx : Tryz.prog.follows .mixedOrders = true := by kernel_rfl
        refine wp_region_noPanic ?_
        refine wp_region_L (CS w.heap.size (some ⟨b, off, none⟩) n c l none []) 9 hmx ?_
        have hdr := (Below.refl w4.heap.size w4).drew
        have hHeld : CS w.heap.size (some ⟨b, off, none⟩) n c l none [] w4.drew := hS4.below hdr
        have hbd := bnext hb hdr
        clear hdr hS4 hb hc
        generalize w4.drew = u0 at *
        refine wpAnyL_take (i := 0) (f0 := 11) (v := ?_) rfl (by decide +kernel) (by decide +kernel) (by decide +kernel) (by decide +kernel) (by decide +kernel) (fun _ _ _ h => h) (Or.inl ⟨by rfl, ?_⟩) hHeld ?_
        rotate_left
        · intro wS hS; have c9 := iCells0 hS.row; go_simp; (try with_reducible rfl)
        simp only [Act.put, List.getElem_toArray, List.getElem_cons_succ, List.getElem_cons_zero, List.setIfInBounds_toArray, List.set_cons_succ, List.set_cons_zero]
        refine wpAnyL_take (i := 1) (f0 := 11) (v := ?_) rfl (by decide +kernel) (by decide +kernel) (by decide +kernel) (by decide +kernel) (by decide +kernel) (fun _ _ _ h => h) (Or.inl ⟨by rfl, ?_⟩) hHeld ?_
        rotate_left
        · intro wS hS; go_simp; (try with_reducible rfl)
        simp only [Act.put, List.getElem_toArray, List.getElem_cons_succ, List.getElem_cons_zero, List.setIfInBounds_toArray, List.set_cons_succ, List.set_cons_zero]
        refine wpAnyL_take (i := 2) (f0 := 11) (v := ?_) rfl (by decide +kernel) (by decide +kernel) (by decide +kernel) (by decide +kernel) (by decide +kernel) (fun _ _ _ h => h) (Or.inl ⟨by rfl, ?_⟩) hHeld ?_
        rotate_left
        · intro wS hS; have c9 := iCells0 hS.row; go_simp; (try with_reducible rfl)
        simp only [Act.put, List.getElem_toArray, List.getElem_cons_succ, List.getElem_cons_zero, List.setIfInBounds_toArray, List.set_cons_succ, List.set_cons_zero]
        refine wpAnyL_take (i := 3) (f0 := 11) (v := ?_) rfl (by decide +kernel) (by decide +kernel) (by decide +kernel) (by decide +kernel) (by decide +kernel) (fun _ _ _ h => h) (Or.inl ⟨by rfl, ?_⟩) hHeld ?_
        rotate_left
        · intro wS hS; go_simp; (try with_reducible rfl)
        simp only [Act.put, List.getElem_toArray, List.getElem_cons_succ, List.getElem_cons_zero, List.setIfInBounds_toArray, List.set_cons_succ, List.set_cons_zero]
        refine wpAnyL_take (i := 4) (f0 := 11) (v := ?_) rfl (by decide +kernel) (by decide +kernel) (by decide +kernel) (by decide +kernel) (by decide +kernel) (fun _ _ _ h => h) (Or.inl ⟨by rfl, ?_⟩) hHeld ?_
        rotate_left
        · intro wS hS; go_simp; (try with_reducible rfl)
        simp only [Act.put, List.getElem_toArray, List.getElem_cons_succ, List.getElem_cons_zero, List.setIfInBounds_toArray, List.set_cons_succ, List.set_cons_zero]
        refine wpAnyL_take (i := 5) (f0 := 11) (v := ?_) rfl (by decide +kernel) (by decide +kernel) (by decide +kernel) (by decide +kernel) (by decide +kernel) (fun _ _ _ h => h) (Or.inl ⟨by rfl, ?_⟩) hHeld ?_
        rotate_left
        · intro wS hS; go_simp; (try with_reducible rfl)
        simp only [Act.put, List.getElem_toArray, List.getElem_cons_succ, List.getElem_cons_zero, List.setIfInBounds_toArray, List.set_cons_succ, List.set_cons_zero]
        refine wpAnyL_take (i := 6) (f0 := 11) (v := ?_) rfl (by decide +kernel) (by decide +kernel) (by decide +kernel) (by decide +kernel) (by decide +kernel) (fun _ _ _ h => h) (Or.inl ⟨by rfl, ?_⟩) hHeld ?_
        rotate_left
        · intro wS hS; obtain ⟨hbl, p0, p1, p2, p3, p4, p5, p6⟩ := hS.its.cells hil x HX.out; go_simp; (try with_reducible rfl)
        simp only [Act.put, List.getElem_toArray, List.getElem_cons_succ, List.getElem_cons_zero, List.setIfInBounds_toArray, List.set_cons_succ, List.set_cons_zero]
        refine wpAnyL_one (i := 7) (by decide +kernel) (by rfl) (fun K hK => ?_)
        rw [if_pos (by rfl)]
        go_simp
        refine (Code.below_of l (some ⟨b, off, none⟩) n c HL.out HW.out (by omega) x.id u0 hHeld.its L hL).mono ?_
        rintro e u1 ⟨⟨A7, c7, rfl, hc7, hS7⟩, hx7⟩
        rw [hLm] at hc7 ⊢
        have hHeld1 : CS w.heap.size (some ⟨b, off, none⟩) n c l none [] u1 := hHeld.below hx7
        have hbd1 := bnext hbd hx7
        refine hK.out _ _ (Or.inr hHeld1) ?_
        clear hK K hHeld hbd hx7
        try simp only [Act.put, List.getElem_toArray, List.getElem_cons_succ, List.getElem_cons_zero, List.setIfInBounds_toArray, List.set_cons_succ, List.set_cons_zero]
        refine wpAnyL_take (i := 8) (f0 := 11) (v := ?_) rfl (by decide +kernel) (by decide +kernel) (by decide +kernel) (by decide +kernel) (by decide +kernel) (fun _ _ _ h => h) (Or.inl ⟨by rfl, ?_⟩) hHeld1 ?_
        rotate_left
        · intro wS hS; go_simp; (try with_reducible rfl)
        simp only [Act.put, List.getElem_toArray, List.getElem_cons_succ, List.getElem_cons_zero, List.setIfInBounds_toArray, List.set_cons_succ, List.set_cons_zero]
        refine wpAnyL_done (by decide +kernel) ?_ _
        refine NoPanic.normal ?_
        have hS1 : CS w.heap.size (some ⟨b, off, none⟩) n c l A7 L u1 := ⟨hHeld1.row, hHeld1.its, hHeld1.env, hS7⟩
        clear hHeld1 hS7
        go_wp2
        go_loopw [8] (fun kv wr => ∃ k : Nat, k ≤ m ∧ kv = .int .i64 (k : Int) ∧ CS w.heap.size (some ⟨b, off, none⟩) n c l A7 L wr ∧ Below w.heap.size w wr) (fun kv _ => m - (intOf kv).toNat)
        case atStart => exact ⟨0, by omega, rfl, hS1, hbd1⟩
        case round =>
          clear hS1 hbd1
          obtain ⟨k, hk, rfl, hS, hb⟩ := hrel
          by_cases hlt : k < m
          · obtain ⟨q, hq⟩ : ∃ q, i + 1 + k = q := ⟨_, rfl⟩
            have hqi : (i : Int) + 1 + (k : Int) = (q : Int) := by omega
            have hqn : q < n := by omega
            have hql : q < l.length := by rw [HL.out]; exact hqn
            have hkL : k < L.length := by rw [hLm]; exact hlt
            obtain ⟨y, hy⟩ : ∃ y, l[q] = y := ⟨_, rfl⟩
            have hLk : L[k] = y.id := by
              have e9 := HM3.out
              have h9 : L[k]? = some y.id := by
                rw [e9, List.getElem?_map, List.getElem?_take_of_lt hlt, List.getElem?_drop, hq, List.getElem?_eq_getElem hql, hy]
                rfl
              rw [List.getElem?_eq_getElem hkL] at h9
              injection h9
            obtain ⟨b7, off7, rfl, hb7, hc7k⟩ := hS.lis.get hkL
            rw [hLk] at hc7k
            have hkd : x.kind = 1 := HM2.out (by omega)
            obtain ⟨_, x0, x1, x2, x3, x4, x5, x6⟩ := hS.its.cells hil x HX.out
            obtain ⟨_, y0, y1, y2, y3, y4, y5, y6⟩ := hS.its.cells hql y hy
            rw [hkd] at x0
            have hc := iCells0 hS.row
            have hkm : (k : Int) < (m : Int) := by omega
            have hk0' : (0 : Int) ≤ (k : Int) := by omega
            have hq0 : (0 : Int) ≤ (q : Int) := by omega
            have hqn' : (q : Int) < (n : Int) := by omega
            have hqn2 : ¬ (n : Int) ≤ (q : Int) := by omega
            clear x1 x2 x3 x4 x5 x6 y0 y2 y3 y4 y5 y6 hy hLk hkd
            go_upto_region 9 with (fail)
            go_quiet (fail)
            go_wp2
            have hbn := below_drewN (Below.refl wr.heap.size wr) nq
            go_roundw
            case rel => exact ⟨k + 1, by omega, by go_num, hS.below hbn, bnext hb hbn⟩
            case measure => simp [intOf]; omega
          · obtain rfl : m = k := by omega
            have hc := iCells0 hS.row
            go_wp2
            clear hc
            go_loopw [9] (fun kv wx => ∃ k : Nat, k ≤ n ∧ kv = .int .i64 (k : Int) ∧ CS w.heap.size (some ⟨b, off, none⟩) n c l A7 L wx ∧ Below w.heap.size w wx) (fun kv _ => n - (intOf kv).toNat)
            case atStart => exact ⟨0, by omega, rfl, hS, hb⟩
            case round =>
              clear hS hb
              obtain ⟨k, hk, rfl, hS, hb⟩ := hrel
              by_cases hlt : k < n
              · have hkl : k < l.length := by rw [HL.out]; exact hlt
                have hkn : (k : Int) < (n : Int) := by omega
                have hk0' : (0 : Int) ≤ (k : Int) := by omega
                obtain ⟨y, hy⟩ : ∃ y, l[k] = y := ⟨_, rfl⟩
                have HY := hide hy
                obtain ⟨U, hU⟩ : ∃ U, underC l y.id x.id = U := ⟨_, rfl⟩
                have hU2 : U = decide (i < k ∧ k ≤ i + m) := by rw [← hU, ← hy, ← HX.out]; exact HM4.out k hkl
                have hN : underC l y.id ⟨#[]⟩ = true := by rw [← hy]; exact under_nil HV.out hkl
                have hP : y.parent ≠ Dg.nil8 → underC l y.id y.parent = true := fun h => by
                  rw [← hy] at h ⊢
                  exact under_parent HV.out hkl h
                have HN := hide hN; have HP := hide hP
                clear hN hP hy
                have hc := iCells0 hS.row
                go_upto_region 14 with (fail)
                clear hc
                refine wp_region_noPanic ?_
                refine wp_region_L (CS w.heap.size (some ⟨b, off, none⟩) n c l A7 L) 37 hmx ?_
                have hdr := (Below.refl wr.heap.size wr).drew
                have hHeld : CS w.heap.size (some ⟨b, off, none⟩) n c l A7 L wr.drew := hS.below hdr
                have hbd := bnext hb hdr
                clear hdr hS hb
                generalize wr.drew = u2 at *
                obtain ⟨q, hq⟩ : ∃ q, i + m = q := ⟨_, rfl⟩
                have him : (i : Int) + (m : Int) = (q : Int) := by omega
                have hwq : IntKind.i64.wrap (q : Int) = (q : Int) := IntWalk.i64_in _ (by omega)
                by_cases hik : i < k
                · have d1 : (i : Int) < (k : Int) := by omega
                  by_cases hkm : k ≤ i + m
                  · have d2 : (k : Int) ≤ (q : Int) := by omega
                    obtain rfl : U = true := by rw [hU2]; exact decide_eq_true ⟨hik, hkm⟩
                    have HU := hide hU
                    clear hU hU2
                    refine wpAnyL_take (i := 0) (f0 := 39) (v := ?_) rfl (by decide +kernel) (by decide +kernel) (by decide +kernel) (by decide +kernel) (by decide +kernel) (fun _ _ _ h => h) (Or.inl ⟨by rfl, ?_⟩) hHeld ?_
                    rotate_left
                    · intro wS hS; have c9 := iCells0 hS.row; go_simp; (try with_reducible rfl)
                    simp only [Act.put, List.getElem_toArray, List.getElem_cons_succ, List.getElem_cons_zero, List.setIfInBounds_toArray, List.set_cons_succ, List.set_cons_zero]
                    refine wpAnyL_take (i := 1) (f0 := 39) (v := ?_) rfl (by decide +kernel) (by decide +kernel) (by decide +kernel) (by decide +kernel) (by decide +kernel) (fun _ _ _ h => h) (Or.inl ⟨by rfl, ?_⟩) hHeld ?_
                    rotate_left
                    · intro wS hS; go_simp; (try with_reducible rfl)
                    simp only [Act.put, List.getElem_toArray, List.getElem_cons_succ, List.getElem_cons_zero, List.setIfInBounds_toArray, List.set_cons_succ, List.set_cons_zero]
                    refine wpAnyL_take (i := 2) (f0 := 39) (v := ?_) rfl (by decide +kernel) (by decide +kernel) (by decide +kernel) (by decide +kernel) (by decide +kernel) (fun _ _ _ h => h) (Or.inl ⟨by rfl, ?_⟩) hHeld ?_
                    rotate_left
                    · intro wS hS; have c9 := iCells0 hS.row; go_simp; (try with_reducible rfl)
                    simp only [Act.put, List.getElem_toArray, List.getElem_cons_succ, List.getElem_cons_zero, List.setIfInBounds_toArray, List.set_cons_succ, List.set_cons_zero]
                    refine wpAnyL_take (i := 3) (f0 := 39) (v := ?_) rfl (by decide +kernel) (by decide +kernel) (by decide +kernel) (by decide +kernel) (by decide +kernel) (fun _ _ _ h => h) (Or.inl ⟨by rfl, ?_⟩) hHeld ?_
                    rotate_left
                    · intro wS hS; go_simp; (try with_reducible rfl)
                    simp only [Act.put, List.getElem_toArray, List.getElem_cons_succ, List.getElem_cons_zero, List.setIfInBounds_toArray, List.set_cons_succ, List.set_cons_zero]
                    refine wpAnyL_take (i := 4) (f0 := 39) (v := ?_) rfl (by decide +kernel) (by decide +kernel) (by decide +kernel) (by decide +kernel) (by decide +kernel) (fun _ _ _ h => h) (Or.inl ⟨by rfl, ?_⟩) hHeld ?_
                    rotate_left
                    · intro wS hS; go_simp; (try with_reducible rfl)
                    simp only [Act.put, List.getElem_toArray, List.getElem_cons_succ, List.getElem_cons_zero, List.setIfInBounds_toArray, List.set_cons_succ, List.set_cons_zero]
                    refine wpAnyL_take (i := 5) (f0 := 39) (v := ?_) rfl (by decide +kernel) (by decide +kernel) (by decide +kernel) (by decide +kernel) (by decide +kernel) (fun _ _ _ h => h) (Or.inl ⟨by rfl, ?_⟩) hHeld ?_
                    rotate_left
                    · intro wS hS; go_simp; (try with_reducible rfl)
                    simp only [Act.put, List.getElem_toArray, List.getElem_cons_succ, List.getElem_cons_zero, List.setIfInBounds_toArray, List.set_cons_succ, List.set_cons_zero]
                    refine wpAnyL_take (i := 6) (f0 := 39) (v := ?_) rfl (by decide +kernel) (by decide +kernel) (by decide +kernel) (by decide +kernel) (by decide +kernel) (fun _ _ _ h => h) (Or.inl ⟨by rfl, ?_⟩) hHeld ?_
                    rotate_left
                    · intro wS hS; obtain ⟨hbl, p0, p1, p2, p3, p4, p5, p6⟩ := hS.its.cells hkl y HY.out; go_simp; (try with_reducible rfl)
                    simp only [Act.put, List.getElem_toArray, List.getElem_cons_succ, List.getElem_cons_zero, List.setIfInBounds_toArray, List.set_cons_succ, List.set_cons_zero]
                    refine wpAnyL_take (i := 7) (f0 := 39) (v := ?_) rfl (by decide +kernel) (by decide +kernel) (by decide +kernel) (by decide +kernel) (by decide +kernel) (fun _ _ _ h => h) (Or.inl ⟨by rfl, ?_⟩) hHeld ?_
                    rotate_left
                    · intro wS hS; go_simp; (try with_reducible rfl)
                    simp only [Act.put, List.getElem_toArray, List.getElem_cons_succ, List.getElem_cons_zero, List.setIfInBounds_toArray, List.set_cons_succ, List.set_cons_zero]
                    refine wpAnyL_take (i := 8) (f0 := 39) (v := ?_) rfl (by decide +kernel) (by decide +kernel) (by decide +kernel) (by decide +kernel) (by decide +kernel) (fun _ _ _ h => h) (Or.inl ⟨by rfl, ?_⟩) hHeld ?_
                    rotate_left
                    · intro wS hS; have c9 := iCells0 hS.row; go_simp; (try with_reducible rfl)
                    simp only [Act.put, List.getElem_toArray, List.getElem_cons_succ, List.getElem_cons_zero, List.setIfInBounds_toArray, List.set_cons_succ, List.set_cons_zero]
                    refine wpAnyL_take (i := 9) (f0 := 39) (v := ?_) rfl (by decide +kernel) (by decide +kernel) (by decide +kernel) (by decide +kernel) (by decide +kernel) (fun _ _ _ h => h) (Or.inl ⟨by rfl, ?_⟩) hHeld ?_
                    rotate_left
                    · intro wS hS; go_simp; (try with_reducible rfl)
                    simp only [Act.put, List.getElem_toArray, List.getElem_cons_succ, List.getElem_cons_zero, List.setIfInBounds_toArray, List.set_cons_succ, List.set_cons_zero]
                    refine wpAnyL_take (i := 10) (f0 := 39) (v := ?_) rfl (by decide +kernel) (by decide +kernel) (by decide +kernel) (by decide +kernel) (by decide +kernel) (fun _ _ _ h => h) (Or.inl ⟨by rfl, ?_⟩) hHeld ?_
                    rotate_left
                    · intro wS hS; go_simp; (try with_reducible rfl)
                    simp only [Act.put, List.getElem_toArray, List.getElem_cons_succ, List.getElem_cons_zero, List.setIfInBounds_toArray, List.set_cons_succ, List.set_cons_zero]
                    refine wpAnyL_take (i := 11) (f0 := 39) (v := ?_) rfl (by decide +kernel) (by decide +kernel) (by decide +kernel) (by decide +kernel) (by decide +kernel) (fun _ _ _ h => h) (Or.inl ⟨by rfl, ?_⟩) hHeld ?_
                    rotate_left
                    · intro wS hS; go_simp; (try with_reducible rfl)
                    simp only [Act.put, List.getElem_toArray, List.getElem_cons_succ, List.getElem_cons_zero, List.setIfInBounds_toArray, List.set_cons_succ, List.set_cons_zero]
                    refine wpAnyL_take (i := 12) (f0 := 39) (v := ?_) rfl (by decide +kernel) (by decide +kernel) (by decide +kernel) (by decide +kernel) (by decide +kernel) (fun _ _ _ h => h) (Or.inl ⟨by rfl, ?_⟩) hHeld ?_
                    rotate_left
                    · intro wS hS; obtain ⟨hbl, p0, p1, p2, p3, p4, p5, p6⟩ := hS.its.cells hil x HX.out; go_simp; (try with_reducible rfl)
                    simp only [Act.put, List.getElem_toArray, List.getElem_cons_succ, List.getElem_cons_zero, List.setIfInBounds_toArray, List.set_cons_succ, List.set_cons_zero]
                    refine wpAnyL_take (i := 14) (f0 := 39) (v := ?_) rfl (by decide +kernel) (by decide +kernel) (by decide +kernel) (by decide +kernel) (by decide +kernel) (fun _ _ _ h => h) (Or.inl ⟨by rfl, ?_⟩) hHeld ?_
                    rotate_left
                    · intro wS hS; go_simp; (try with_reducible rfl)
                    simp only [Act.put, List.getElem_toArray, List.getElem_cons_succ, List.getElem_cons_zero, List.setIfInBounds_toArray, List.set_cons_succ, List.set_cons_zero]
                    refine wpAnyL_take (i := 15) (f0 := 39) (v := ?_) rfl (by decide +kernel) (by decide +kernel) (by decide +kernel) (by decide +kernel) (by decide +kernel) (fun _ _ _ h => h) (Or.inl ⟨by rfl, ?_⟩) hHeld ?_
                    rotate_left
                    · intro wS hS; go_simp; (try with_reducible rfl)
                    simp only [Act.put, List.getElem_toArray, List.getElem_cons_succ, List.getElem_cons_zero, List.setIfInBounds_toArray, List.set_cons_succ, List.set_cons_zero]
                    refine wpAnyL_take (i := 16) (f0 := 39) (v := ?_) rfl (by decide +kernel) (by decide +kernel) (by decide +kernel) (by decide +kernel) (by decide +kernel) (fun _ _ _ h => h) (Or.inl ⟨by rfl, ?_⟩) hHeld ?_
                    rotate_left
                    · intro wS hS; go_simp; (try with_reducible rfl)
                    simp only [Act.put, List.getElem_toArray, List.getElem_cons_succ, List.getElem_cons_zero, List.setIfInBounds_toArray, List.set_cons_succ, List.set_cons_zero]
                    refine wpAnyL_one (i := 13) (by decide +kernel) (by rfl) (fun K hK => ?_)
                    rw [if_pos (by rfl)]
                    go_simp
                    refine (Code.under_of l (some ⟨b, off, none⟩) n c HL.out HW.out (by omega) y.id x.id u2 hHeld.its true HU.out).mono ?_
                    rintro e u3 ⟨rfl, hx3⟩
                    have hHeld3 : CS w.heap.size (some ⟨b, off, none⟩) n c l A7 L u3 := hHeld.below hx3
                    have hbd3 := bnext hbd hx3
                    refine hK.out _ _ (Or.inr hHeld3) ?_
                    clear hK K hHeld hbd hx3
                    try simp only [Act.put, List.getElem_toArray, List.getElem_cons_succ, List.getElem_cons_zero, List.setIfInBounds_toArray, List.set_cons_succ, List.set_cons_zero]
                    refine wpAnyL_take (i := 17) (f0 := 39) (v := ?_) rfl (by decide +kernel) (by decide +kernel) (by decide +kernel) (by decide +kernel) (by decide +kernel) (fun _ _ _ h => h) (Or.inl ⟨by rfl, ?_⟩) hHeld3 ?_
                    rotate_left
                    · intro wS hS; go_simp; (try with_reducible rfl)
                    simp only [Act.put, List.getElem_toArray, List.getElem_cons_succ, List.getElem_cons_zero, List.setIfInBounds_toArray, List.set_cons_succ, List.set_cons_zero]
                    refine wpAnyL_take (i := 18) (f0 := 39) (v := ?_) rfl (by decide +kernel) (by decide +kernel) (by decide +kernel) (by decide +kernel) (by decide +kernel) (fun _ _ _ h => h) (Or.inl ⟨by rfl, ?_⟩) hHeld3 ?_
                    rotate_left
                    · intro wS hS; go_simp; (try with_reducible rfl)
                    simp only [Act.put, List.getElem_toArray, List.getElem_cons_succ, List.getElem_cons_zero, List.setIfInBounds_toArray, List.set_cons_succ, List.set_cons_zero]
                    refine wpAnyL_take (i := 19) (f0 := 39) (v := ?_) rfl (by decide +kernel) (by decide +kernel) (by decide +kernel) (by decide +kernel) (by decide +kernel) (fun _ _ _ h => h) (Or.inl ⟨by rfl, ?_⟩) hHeld3 ?_
                    rotate_left
                    · intro wS hS; go_simp; (try with_reducible rfl)
                    simp only [Act.put, List.getElem_toArray, List.getElem_cons_succ, List.getElem_cons_zero, List.setIfInBounds_toArray, List.set_cons_succ, List.set_cons_zero]
                    refine wpAnyL_take (i := 20) (f0 := 39) (v := ?_) rfl (by decide +kernel) (by decide +kernel) (by decide +kernel) (by decide +kernel) (by decide +kernel) (fun _ _ _ h => h) (Or.inl ⟨by rfl, ?_⟩) hHeld3 ?_
                    rotate_left
                    · intro wS hS; go_simp; (try with_reducible rfl)
                    simp only [Act.put, List.getElem_toArray, List.getElem_cons_succ, List.getElem_cons_zero, List.setIfInBounds_toArray, List.set_cons_succ, List.set_cons_zero]
                    refine wpAnyL_take (i := 21) (f0 := 39) (v := ?_) rfl (by decide +kernel) (by decide +kernel) (by decide +kernel) (by decide +kernel) (by decide +kernel) (fun _ _ _ h => h) (Or.inl ⟨by rfl, ?_⟩) hHeld3 ?_
                    rotate_left
                    · intro wS hS; go_simp; (try with_reducible rfl)
                    simp only [Act.put, List.getElem_toArray, List.getElem_cons_succ, List.getElem_cons_zero, List.setIfInBounds_toArray, List.set_cons_succ, List.set_cons_zero]
                    refine wpAnyL_take (i := 22) (f0 := 39) (v := ?_) rfl (by decide +kernel) (by decide +kernel) (by decide +kernel) (by decide +kernel) (by decide +kernel) (fun _ _ _ h => h) (Or.inl ⟨by rfl, ?_⟩) hHeld3 ?_
                    rotate_left
                    · intro wS hS; go_simp; (try with_reducible rfl)
                    simp only [Act.put, List.getElem_toArray, List.getElem_cons_succ, List.getElem_cons_zero, List.setIfInBounds_toArray, List.set_cons_succ, List.set_cons_zero]
                    refine wpAnyL_take (i := 23) (f0 := 39) (v := ?_) rfl (by decide +kernel) (by decide +kernel) (by decide +kernel) (by decide +kernel) (by decide +kernel) (fun _ _ _ h => h) (Or.inl ⟨by rfl, ?_⟩) hHeld3 ?_
                    rotate_left
                    · intro wS hS; go_simp; (try with_reducible rfl)
                    simp only [Act.put, List.getElem_toArray, List.getElem_cons_succ, List.getElem_cons_zero, List.setIfInBounds_toArray, List.set_cons_succ, List.set_cons_zero]
                    refine wpAnyL_take (i := 24) (f0 := 39) (v := ?_) rfl (by decide +kernel) (by decide +kernel) (by decide +kernel) (by decide +kernel) (by decide +kernel) (fun _ _ _ h => h) (Or.inl ⟨by rfl, ?_⟩) hHeld3 ?_
                    rotate_left
                    · intro wS hS; go_simp; (try with_reducible rfl)
                    simp only [Act.put, List.getElem_toArray, List.getElem_cons_succ, List.getElem_cons_zero, List.setIfInBounds_toArray, List.set_cons_succ, List.set_cons_zero]
                    refine wpAnyL_take (i := 25) (f0 := 39) (v := ?_) rfl (by decide +kernel) (by decide +kernel) (by decide +kernel) (by decide +kernel) (by decide +kernel) (fun _ _ _ h => h) (Or.inl ⟨by rfl, ?_⟩) hHeld3 ?_
                    rotate_left
                    · intro wS hS; go_simp; (try with_reducible rfl)
                    simp only [Act.put, List.getElem_toArray, List.getElem_cons_succ, List.getElem_cons_zero, List.setIfInBounds_toArray, List.set_cons_succ, List.set_cons_zero]
                    refine wpAnyL_take (i := 26) (f0 := 39) (v := ?_) rfl (by decide +kernel) (by decide +kernel) (by decide +kernel) (by decide +kernel) (by decide +kernel) (fun _ _ _ h => h) (Or.inl ⟨by rfl, ?_⟩) hHeld3 ?_
                    rotate_left
                    · intro wS hS; go_simp; (try with_reducible rfl)
                    simp only [Act.put, List.getElem_toArray, List.getElem_cons_succ, List.getElem_cons_zero, List.setIfInBounds_toArray, List.set_cons_succ, List.set_cons_zero]
                    refine wpAnyL_take (i := 27) (f0 := 39) (v := ?_) rfl (by decide +kernel) (by decide +kernel) (by decide +kernel) (by decide +kernel) (by decide +kernel) (fun _ _ _ h => h) (Or.inl ⟨by rfl, ?_⟩) hHeld3 ?_
                    rotate_left
                    · intro wS hS; have c9 := iCells0 hS.row; go_simp; (try with_reducible rfl)
                    simp only [Act.put, List.getElem_toArray, List.getElem_cons_succ, List.getElem_cons_zero, List.setIfInBounds_toArray, List.set_cons_succ, List.set_cons_zero]
                    refine wpAnyL_take (i := 28) (f0 := 39) (v := ?_) rfl (by decide +kernel) (by decide +kernel) (by decide +kernel) (by decide +kernel) (by decide +kernel) (fun _ _ _ h => h) (Or.inl ⟨by rfl, ?_⟩) hHeld3 ?_
                    rotate_left
                    · intro wS hS; go_simp; (try with_reducible rfl)
                    simp only [Act.put, List.getElem_toArray, List.getElem_cons_succ, List.getElem_cons_zero, List.setIfInBounds_toArray, List.set_cons_succ, List.set_cons_zero]
                    refine wpAnyL_take (i := 29) (f0 := 39) (v := ?_) rfl (by decide +kernel) (by decide +kernel) (by decide +kernel) (by decide +kernel) (by decide +kernel) (fun _ _ _ h => h) (Or.inl ⟨by rfl, ?_⟩) hHeld3 ?_
                    rotate_left
                    · intro wS hS; have c9 := iCells0 hS.row; go_simp; (try with_reducible rfl)
                    simp only [Act.put, List.getElem_toArray, List.getElem_cons_succ, List.getElem_cons_zero, List.setIfInBounds_toArray, List.set_cons_succ, List.set_cons_zero]
                    refine wpAnyL_take (i := 30) (f0 := 39) (v := ?_) rfl (by decide +kernel) (by decide +kernel) (by decide +kernel) (by decide +kernel) (by decide +kernel) (fun _ _ _ h => h) (Or.inl ⟨by rfl, ?_⟩) hHeld3 ?_
                    rotate_left
                    · intro wS hS; go_simp; (try with_reducible rfl)
                    simp only [Act.put, List.getElem_toArray, List.getElem_cons_succ, List.getElem_cons_zero, List.setIfInBounds_toArray, List.set_cons_succ, List.set_cons_zero]
                    refine wpAnyL_take (i := 31) (f0 := 39) (v := ?_) rfl (by decide +kernel) (by decide +kernel) (by decide +kernel) (by decide +kernel) (by decide +kernel) (fun _ _ _ h => h) (Or.inl ⟨by rfl, ?_⟩) hHeld3 ?_
                    rotate_left
                    · intro wS hS; go_simp; (try with_reducible rfl)
                    simp only [Act.put, List.getElem_toArray, List.getElem_cons_succ, List.getElem_cons_zero, List.setIfInBounds_toArray, List.set_cons_succ, List.set_cons_zero]
                    refine wpAnyL_take (i := 32) (f0 := 39) (v := ?_) rfl (by decide +kernel) (by decide +kernel) (by decide +kernel) (by decide +kernel) (by decide +kernel) (fun _ _ _ h => h) (Or.inl ⟨by rfl, ?_⟩) hHeld3 ?_
                    rotate_left
                    · intro wS hS; go_simp; (try with_reducible rfl)
                    simp only [Act.put, List.getElem_toArray, List.getElem_cons_succ, List.getElem_cons_zero, List.setIfInBounds_toArray, List.set_cons_succ, List.set_cons_zero]
                    refine wpAnyL_take (i := 33) (f0 := 39) (v := ?_) rfl (by decide +kernel) (by decide +kernel) (by decide +kernel) (by decide +kernel) (by decide +kernel) (fun _ _ _ h => h) (Or.inl ⟨by rfl, ?_⟩) hHeld3 ?_
                    rotate_left
                    · intro wS hS; obtain ⟨hbl, p0, p1, p2, p3, p4, p5, p6⟩ := hS.its.cells hkl y HY.out; go_simp; (try with_reducible rfl)
                    simp only [Act.put, List.getElem_toArray, List.getElem_cons_succ, List.getElem_cons_zero, List.setIfInBounds_toArray, List.set_cons_succ, List.set_cons_zero]
                    refine wpAnyL_one (i := 34) (by decide +kernel) (by rfl) (fun K hK => ?_)
                    rw [if_pos (by rfl)]
                    go_simp
                    refine (Code.under_of l (some ⟨b, off, none⟩) n c HL.out HW.out (by omega) y.id ⟨#[]⟩ u3 hHeld3.its true HN.out).mono ?_
                    rintro e u4 ⟨rfl, hx4⟩
                    have hHeld4 : CS w.heap.size (some ⟨b, off, none⟩) n c l A7 L u4 := hHeld3.below hx4
                    have hbd4 := bnext hbd3 hx4
                    refine hK.out _ _ (Or.inr hHeld4) ?_
                    clear hK K hHeld3 hbd3 hx4
                    try simp only [Act.put, List.getElem_toArray, List.getElem_cons_succ, List.getElem_cons_zero, List.setIfInBounds_toArray, List.set_cons_succ, List.set_cons_zero]
                    refine wpAnyL_take (i := 35) (f0 := 39) (v := ?_) rfl (by decide +kernel) (by decide +kernel) (by decide +kernel) (by decide +kernel) (by decide +kernel) (fun _ _ _ h => h) (Or.inl ⟨by rfl, ?_⟩) hHeld4 ?_
                    rotate_left
                    · intro wS hS; go_simp; (try with_reducible rfl)
                    simp only [Act.put, List.getElem_toArray, List.getElem_cons_succ, List.getElem_cons_zero, List.setIfInBounds_toArray, List.set_cons_succ, List.set_cons_zero]
                    refine wpAnyL_take (i := 36) (f0 := 39) (v := ?_) rfl (by decide +kernel) (by decide +kernel) (by decide +kernel) (by decide +kernel) (by decide +kernel) (fun _ _ _ h => h) (Or.inl ⟨by rfl, ?_⟩) hHeld4 ?_
                    rotate_left
                    · intro wS hS; go_simp; (try with_reducible rfl)
                    simp only [Act.put, List.getElem_toArray, List.getElem_cons_succ, List.getElem_cons_zero, List.setIfInBounds_toArray, List.set_cons_succ, List.set_cons_zero]
                    refine wpAnyL_done (by decide +kernel) ?_ _
                    refine NoPanic.normal ?_
                    have hc := iCells0 hHeld4.row
                    obtain ⟨_, y0, y1, y2, y3, y4, y5, y6⟩ := hHeld4.its.cells hkl y HY.out
                    clear d1 d2
                    go_upto_region 17 with (fail)
                    clear hc y0 y1 y2 y3 y4 y5 y6
                    refine wp_region_noPanic ?_
                    refine wp_region_L (CS w.heap.size (some ⟨b, off, none⟩) n c l A7 L) 14 hmx ?_
                    have hdr := (Below.refl u4.heap.size u4).drew
                    have hHeld5 : CS w.heap.size (some ⟨b, off, none⟩) n c l A7 L u4.drew := hHeld4.below hdr
                    have hbd5 := bnext hbd4 hdr
                    clear hdr hHeld4 hbd4
                    generalize u4.drew = u5 at *
                    have hpe : y.parent.toList.isEmpty = decide (y.parent = Dg.nil8) := (emp_iff _).symm
                    by_cases hp : y.parent = Dg.nil8
                    · have hpb : y.parent.toList.isEmpty = true := hpe.trans (decide_eq_true hp)
                      clear hp hpe
                      refine wpAnyL_take (i := 0) (f0 := 16) (v := ?_) rfl (by decide +kernel) (by decide +kernel) (by decide +kernel) (by decide +kernel) (by decide +kernel) (fun _ _ _ h => h) (Or.inl ⟨by rfl, ?_⟩) hHeld5 ?_
                      rotate_left
                      · intro wS hS; go_simp; (try with_reducible rfl)
                      simp only [Act.put, List.getElem_toArray, List.getElem_cons_succ, List.getElem_cons_zero, List.setIfInBounds_toArray, List.set_cons_succ, List.set_cons_zero]
                      refine wpAnyL_take (i := 1) (f0 := 16) (v := ?_) rfl (by decide +kernel) (by decide +kernel) (by decide +kernel) (by decide +kernel) (by decide +kernel) (fun _ _ _ h => h) (Or.inl ⟨by rfl, ?_⟩) hHeld5 ?_
                      rotate_left
                      · intro wS hS; go_simp; (try with_reducible rfl)
                      simp only [Act.put, List.getElem_toArray, List.getElem_cons_succ, List.getElem_cons_zero, List.setIfInBounds_toArray, List.set_cons_succ, List.set_cons_zero]
                      refine wpAnyL_take (i := 2) (f0 := 16) (v := ?_) rfl (by decide +kernel) (by decide +kernel) (by decide +kernel) (by decide +kernel) (by decide +kernel) (fun _ _ _ h => h) (Or.inl ⟨by rfl, ?_⟩) hHeld5 ?_
                      rotate_left
                      · intro wS hS; go_simp; (try with_reducible rfl)
                      simp only [Act.put, List.getElem_toArray, List.getElem_cons_succ, List.getElem_cons_zero, List.setIfInBounds_toArray, List.set_cons_succ, List.set_cons_zero]
                      refine wpAnyL_take (i := 3) (f0 := 16) (v := undef) rfl (by decide +kernel) (by decide +kernel) (by decide +kernel) (by decide +kernel) (by decide +kernel) (fun _ _ _ h => h) (Or.inr ⟨by rfl, rfl⟩) hHeld5 ?_
                      simp only [Act.put, List.getElem_toArray, List.getElem_cons_succ, List.getElem_cons_zero, List.setIfInBounds_toArray, List.set_cons_succ, List.set_cons_zero]
                      refine wpAnyL_take (i := 4) (f0 := 16) (v := undef) rfl (by decide +kernel) (by decide +kernel) (by decide +kernel) (by decide +kernel) (by decide +kernel) (fun _ _ _ h => h) (Or.inr ⟨by rfl, rfl⟩) hHeld5 ?_
                      simp only [Act.put, List.getElem_toArray, List.getElem_cons_succ, List.getElem_cons_zero, List.setIfInBounds_toArray, List.set_cons_succ, List.set_cons_zero]
                      refine wpAnyL_take (i := 5) (f0 := 16) (v := undef) rfl (by decide +kernel) (by decide +kernel) (by decide +kernel) (by decide +kernel) (by decide +kernel) (fun _ _ _ h => h) (Or.inr ⟨by rfl, rfl⟩) hHeld5 ?_
                      simp only [Act.put, List.getElem_toArray, List.getElem_cons_succ, List.getElem_cons_zero, List.setIfInBounds_toArray, List.set_cons_succ, List.set_cons_zero]
                      refine wpAnyL_take (i := 6) (f0 := 16) (v := undef) rfl (by decide +kernel) (by decide +kernel) (by decide +kernel) (by decide +kernel) (by decide +kernel) (fun _ _ _ h => h) (Or.inr ⟨by rfl, rfl⟩) hHeld5 ?_
                      simp only [Act.put, List.getElem_toArray, List.getElem_cons_succ, List.getElem_cons_zero, List.setIfInBounds_toArray, List.set_cons_succ, List.set_cons_zero]
                      refine wpAnyL_take (i := 7) (f0 := 16) (v := undef) rfl (by decide +kernel) (by decide +kernel) (by decide +kernel) (by decide +kernel) (by decide +kernel) (fun _ _ _ h => h) (Or.inr ⟨by rfl, rfl⟩) hHeld5 ?_
                      simp only [Act.put, List.getElem_toArray, List.getElem_cons_succ, List.getElem_cons_zero, List.setIfInBounds_toArray, List.set_cons_succ, List.set_cons_zero]
                      refine wpAnyL_take (i := 8) (f0 := 16) (v := undef) rfl (by decide +kernel) (by decide +kernel) (by decide +kernel) (by decide +kernel) (by decide +kernel) (fun _ _ _ h => h) (Or.inr ⟨by rfl, rfl⟩) hHeld5 ?_
                      simp only [Act.put, List.getElem_toArray, List.getElem_cons_succ, List.getElem_cons_zero, List.setIfInBounds_toArray, List.set_cons_succ, List.set_cons_zero]
                      refine wpAnyL_take (i := 9) (f0 := 16) (v := undef) rfl (by decide +kernel) (by decide +kernel) (by decide +kernel) (by decide +kernel) (by decide +kernel) (fun _ _ _ h => h) (Or.inr ⟨by rfl, rfl⟩) hHeld5 ?_
                      simp only [Act.put, List.getElem_toArray, List.getElem_cons_succ, List.getElem_cons_zero, List.setIfInBounds_toArray, List.set_cons_succ, List.set_cons_zero]
                      refine wpAnyL_take (i := 10) (f0 := 16) (v := undef) rfl (by decide +kernel) (by decide +kernel) (by decide +kernel) (by decide +kernel) (by decide +kernel) (fun _ _ _ h => h) (Or.inr ⟨by rfl, rfl⟩) hHeld5 ?_
                      simp only [Act.put, List.getElem_toArray, List.getElem_cons_succ, List.getElem_cons_zero, List.setIfInBounds_toArray, List.set_cons_succ, List.set_cons_zero]
                      refine wpAnyL_take (i := 11) (f0 := 16) (v := undef) rfl (by decide +kernel) (by decide +kernel) (by decide +kernel) (by decide +kernel) (by decide +kernel) (fun _ _ _ h => h) (Or.inr ⟨by rfl, rfl⟩) hHeld5 ?_
                      simp only [Act.put, List.getElem_toArray, List.getElem_cons_succ, List.getElem_cons_zero, List.setIfInBounds_toArray, List.set_cons_succ, List.set_cons_zero]
                      refine wpAnyL_take (i := 12) (f0 := 16) (v := undef) rfl (by decide +kernel) (by decide +kernel) (by decide +kernel) (by decide +kernel) (by decide +kernel) (fun _ _ _ h => h) (Or.inr ⟨by rfl, rfl⟩) hHeld5 ?_
                      simp only [Act.put, List.getElem_toArray, List.getElem_cons_succ, List.getElem_cons_zero, List.setIfInBounds_toArray, List.set_cons_succ, List.set_cons_zero]
                      refine wpAnyL_take (i := 13) (f0 := 16) (v := ?_) rfl (by decide +kernel) (by decide +kernel) (by decide +kernel) (by decide +kernel) (by decide +kernel) (fun _ _ _ h => h) (Or.inl ⟨by rfl, ?_⟩) hHeld5 ?_
                      rotate_left
                      · intro wS hS; go_simp; (try with_reducible rfl)
                      simp only [Act.put, List.getElem_toArray, List.getElem_cons_succ, List.getElem_cons_zero, List.setIfInBounds_toArray, List.set_cons_succ, List.set_cons_zero]
                      refine wpAnyL_done (by decide +kernel) ?_ _
                      refine NoPanic.normal ?_
                      go_wp2
                      go_roundw
                      case rel => exact ⟨k + 1, by omega, by go_num, hHeld5, hbd5⟩
                      case measure => simp [intOf]; omega
                    · have hpb : y.parent.toList.isEmpty = false := hpe.trans (decide_eq_false hp)
                      have HPP := hide (HP.out hp)
                      clear hp hpe
                      refine wpAnyL_take (i := 0) (f0 := 16) (v := ?_) rfl (by decide +kernel) (by decide +kernel) (by decide +kernel) (by decide +kernel) (by decide +kernel) (fun _ _ _ h => h) (Or.inl ⟨by rfl, ?_⟩) hHeld5 ?_
                      rotate_left
                      · intro wS hS; go_simp; (try with_reducible rfl)
                      simp only [Act.put, List.getElem_toArray, List.getElem_cons_succ, List.getElem_cons_zero, List.setIfInBounds_toArray, List.set_cons_succ, List.set_cons_zero]
                      refine wpAnyL_take (i := 1) (f0 := 16) (v := ?_) rfl (by decide +kernel) (by decide +kernel) (by decide +kernel) (by decide +kernel) (by decide +kernel) (fun _ _ _ h => h) (Or.inl ⟨by rfl, ?_⟩) hHeld5 ?_
                      rotate_left
                      · intro wS hS; go_simp; (try with_reducible rfl)
                      simp only [Act.put, List.getElem_toArray, List.getElem_cons_succ, List.getElem_cons_zero, List.setIfInBounds_toArray, List.set_cons_succ, List.set_cons_zero]
                      refine wpAnyL_take (i := 2) (f0 := 16) (v := ?_) rfl (by decide +kernel) (by decide +kernel) (by decide +kernel) (by decide +kernel) (by decide +kernel) (fun _ _ _ h => h) (Or.inl ⟨by rfl, ?_⟩) hHeld5 ?_
                      rotate_left
                      · intro wS hS; go_simp; (try with_reducible rfl)
                      simp only [Act.put, List.getElem_toArray, List.getElem_cons_succ, List.getElem_cons_zero, List.setIfInBounds_toArray, List.set_cons_succ, List.set_cons_zero]
                      refine wpAnyL_take (i := 3) (f0 := 16) (v := ?_) rfl (by decide +kernel) (by decide +kernel) (by decide +kernel) (by decide +kernel) (by decide +kernel) (fun _ _ _ h => h) (Or.inl ⟨by rfl, ?_⟩) hHeld5 ?_
                      rotate_left
                      · intro wS hS; have c9 := iCells0 hS.row; go_simp; (try with_reducible rfl)
                      simp only [Act.put, List.getElem_toArray, List.getElem_cons_succ, List.getElem_cons_zero, List.setIfInBounds_toArray, List.set_cons_succ, List.set_cons_zero]
                      refine wpAnyL_take (i := 4) (f0 := 16) (v := ?_) rfl (by decide +kernel) (by decide +kernel) (by decide +kernel) (by decide +kernel) (by decide +kernel) (fun _ _ _ h => h) (Or.inl ⟨by rfl, ?_⟩) hHeld5 ?_
                      rotate_left
                      · intro wS hS; go_simp; (try with_reducible rfl)
                      simp only [Act.put, List.getElem_toArray, List.getElem_cons_succ, List.getElem_cons_zero, List.setIfInBounds_toArray, List.set_cons_succ, List.set_cons_zero]
                      refine wpAnyL_take (i := 5) (f0 := 16) (v := ?_) rfl (by decide +kernel) (by decide +kernel) (by decide +kernel) (by decide +kernel) (by decide +kernel) (fun _ _ _ h => h) (Or.inl ⟨by rfl, ?_⟩) hHeld5 ?_
                      rotate_left
                      · intro wS hS; have c9 := iCells0 hS.row; go_simp; (try with_reducible rfl)
                      simp only [Act.put, List.getElem_toArray, List.getElem_cons_succ, List.getElem_cons_zero, List.setIfInBounds_toArray, List.set_cons_succ, List.set_cons_zero]
                      refine wpAnyL_take (i := 6) (f0 := 16) (v := ?_) rfl (by decide +kernel) (by decide +kernel) (by decide +kernel) (by decide +kernel) (by decide +kernel) (fun _ _ _ h => h) (Or.inl ⟨by rfl, ?_⟩) hHeld5 ?_
                      rotate_left
                      · intro wS hS; go_simp; (try with_reducible rfl)
                      simp only [Act.put, List.getElem_toArray, List.getElem_cons_succ, List.getElem_cons_zero, List.setIfInBounds_toArray, List.set_cons_succ, List.set_cons_zero]
                      refine wpAnyL_take (i := 7) (f0 := 16) (v := ?_) rfl (by decide +kernel) (by decide +kernel) (by decide +kernel) (by decide +kernel) (by decide +kernel) (fun _ _ _ h => h) (Or.inl ⟨by rfl, ?_⟩) hHeld5 ?_
                      rotate_left
                      · intro wS hS; go_simp; (try with_reducible rfl)
                      simp only [Act.put, List.getElem_toArray, List.getElem_cons_succ, List.getElem_cons_zero, List.setIfInBounds_toArray, List.set_cons_succ, List.set_cons_zero]
                      refine wpAnyL_take (i := 8) (f0 := 16) (v := ?_) rfl (by decide +kernel) (by decide +kernel) (by decide +kernel) (by decide +kernel) (by decide +kernel) (fun _ _ _ h => h) (Or.inl ⟨by rfl, ?_⟩) hHeld5 ?_
                      rotate_left
                      · intro wS hS; go_simp; (try with_reducible rfl)
                      simp only [Act.put, List.getElem_toArray, List.getElem_cons_succ, List.getElem_cons_zero, List.setIfInBounds_toArray, List.set_cons_succ, List.set_cons_zero]
                      refine wpAnyL_take (i := 9) (f0 := 16) (v := ?_) rfl (by decide +kernel) (by decide +kernel) (by decide +kernel) (by decide +kernel) (by decide +kernel) (fun _ _ _ h => h) (Or.inl ⟨by rfl, ?_⟩) hHeld5 ?_
                      rotate_left
                      · intro wS hS; obtain ⟨hbl, p0, p1, p2, p3, p4, p5, p6⟩ := hS.its.cells hkl y HY.out; go_simp; (try with_reducible rfl)
                      simp only [Act.put, List.getElem_toArray, List.getElem_cons_succ, List.getElem_cons_zero, List.setIfInBounds_toArray, List.set_cons_succ, List.set_cons_zero]
                      refine wpAnyL_take (i := 10) (f0 := 16) (v := ?_) rfl (by decide +kernel) (by decide +kernel) (by decide +kernel) (by decide +kernel) (by decide +kernel) (fun _ _ _ h => h) (Or.inl ⟨by rfl, ?_⟩) hHeld5 ?_
                      rotate_left
                      · intro wS hS; go_simp; (try with_reducible rfl)
                      simp only [Act.put, List.getElem_toArray, List.getElem_cons_succ, List.getElem_cons_zero, List.setIfInBounds_toArray, List.set_cons_succ, List.set_cons_zero]
                      refine wpAnyL_one (i := 11) (by decide +kernel) (by rfl) (fun K hK => ?_)
                      rw [if_pos (by rfl)]
                      go_simp
                      refine (Code.under_of l (some ⟨b, off, none⟩) n c HL.out HW.out (by omega) y.id y.parent u5 hHeld5.its true HPP.out).mono ?_
                      rintro e u6 ⟨rfl, hx6⟩
                      have hHeld6 : CS w.heap.size (some ⟨b, off, none⟩) n c l A7 L u6 := hHeld5.below hx6
                      have hbd6 := bnext hbd5 hx6
                      refine hK.out _ _ (Or.inr hHeld6) ?_
                      clear hK K hHeld5 hbd5 hx6
                      try simp only [Act.put, List.getElem_toArray, List.getElem_cons_succ, List.getElem_cons_zero, List.setIfInBounds_toArray, List.set_cons_succ, List.set_cons_zero]
                      refine wpAnyL_take (i := 12) (f0 := 16) (v := ?_) rfl (by decide +kernel) (by decide +kernel) (by decide +kernel) (by decide +kernel) (by decide +kernel) (fun _ _ _ h => h) (Or.inl ⟨by rfl, ?_⟩) hHeld6 ?_
                      rotate_left
                      · intro wS hS; go_simp; (try with_reducible rfl)
                      simp only [Act.put, List.getElem_toArray, List.getElem_cons_succ, List.getElem_cons_zero, List.setIfInBounds_toArray, List.set_cons_succ, List.set_cons_zero]
                      refine wpAnyL_take (i := 13) (f0 := 16) (v := ?_) rfl (by decide +kernel) (by decide +kernel) (by decide +kernel) (by decide +kernel) (by decide +kernel) (fun _ _ _ h => h) (Or.inl ⟨by rfl, ?_⟩) hHeld6 ?_
                      rotate_left
                      · intro wS hS; go_simp; (try with_reducible rfl)
                      simp only [Act.put, List.getElem_toArray, List.getElem_cons_succ, List.getElem_cons_zero, List.setIfInBounds_toArray, List.set_cons_succ, List.set_cons_zero]
                      refine wpAnyL_done (by decide +kernel) ?_ _
                      refine NoPanic.normal ?_
                      go_wp2
                      go_roundw
                      case rel => exact ⟨k + 1, by omega, by go_num, hHeld6, hbd6⟩
                      case measure => simp [intOf]; omega
                  · have d2 : ¬ (k : Int) ≤ (q : Int) := by omega
                    obtain rfl : U = false := by rw [hU2]; exact decide_eq_false (fun h => hkm h.2)
                    have HU := hide hU
                    clear hU hU2
                    refine wpAnyL_take (i := 0) (f0 := 39) (v := ?_) rfl (by decide +kernel) (by decide +kernel) (by decide +kernel) (by decide +kernel) (by decide +kernel) (fun _ _ _ h => h) (Or.inl ⟨by rfl, ?_⟩) hHeld ?_
                    rotate_left
                    · intro wS hS; have c9 := iCells0 hS.row; go_simp; (try with_reducible rfl)
                    simp only [Act.put, List.getElem_toArray, List.getElem_cons_succ, List.getElem_cons_zero, List.setIfInBounds_toArray, List.set_cons_succ, List.set_cons_zero]
                    refine wpAnyL_take (i := 1) (f0 := 39) (v := ?_) rfl (by decide +kernel) (by decide +kernel) (by decide +kernel) (by decide +kernel) (by decide +kernel) (fun _ _ _ h => h) (Or.inl ⟨by rfl, ?_⟩) hHeld ?_
                    rotate_left
                    · intro wS hS; go_simp; (try with_reducible rfl)
                    simp only [Act.put, List.getElem_toArray, List.getElem_cons_succ, List.getElem_cons_zero, List.setIfInBounds_toArray, List.set_cons_succ, List.set_cons_zero]
                    refine wpAnyL_take (i := 2) (f0 := 39) (v := ?_) rfl (by decide +kernel) (by decide +kernel) (by decide +kernel) (by decide +kernel) (by decide +kernel) (fun _ _ _ h => h) (Or.inl ⟨by rfl, ?_⟩) hHeld ?_
                    rotate_left
                    · intro wS hS; have c9 := iCells0 hS.row; go_simp; (try with_reducible rfl)
                    simp only [Act.put, List.getElem_toArray, List.getElem_cons_succ, List.getElem_cons_zero, List.setIfInBounds_toArray, List.set_cons_succ, List.set_cons_zero]
                    refine wpAnyL_take (i := 3) (f0 := 39) (v := ?_) rfl (by decide +kernel) (by decide +kernel) (by decide +kernel) (by decide +kernel) (by decide +kernel) (fun _ _ _ h => h) (Or.inl ⟨by rfl, ?_⟩) hHeld ?_
                    rotate_left
                    · intro wS hS; go_simp; (try with_reducible rfl)
                    simp only [Act.put, List.getElem_toArray, List.getElem_cons_succ, List.getElem_cons_zero, List.setIfInBounds_toArray, List.set_cons_succ, List.set_cons_zero]
                    refine wpAnyL_take (i := 4) (f0 := 39) (v := ?_) rfl (by decide +kernel) (by decide +kernel) (by decide +kernel) (by decide +kernel) (by decide +kernel) (fun _ _ _ h => h) (Or.inl ⟨by rfl, ?_⟩) hHeld ?_
                    rotate_left
                    · intro wS hS; go_simp; (try with_reducible rfl)
                    simp only [Act.put, List.getElem_toArray, List.getElem_cons_succ, List.getElem_cons_zero, List.setIfInBounds_toArray, List.set_cons_succ, List.set_cons_zero]
                    refine wpAnyL_take (i := 5) (f0 := 39) (v := ?_) rfl (by decide +kernel) (by decide +kernel) (by decide +kernel) (by decide +kernel) (by decide +kernel) (fun _ _ _ h => h) (Or.inl ⟨by rfl, ?_⟩) hHeld ?_
                    rotate_left
                    · intro wS hS; go_simp; (try with_reducible rfl)
                    simp only [Act.put, List.getElem_toArray, List.getElem_cons_succ, List.getElem_cons_zero, List.setIfInBounds_toArray, List.set_cons_succ, List.set_cons_zero]
                    refine wpAnyL_take (i := 6) (f0 := 39) (v := ?_) rfl (by decide +kernel) (by decide +kernel) (by decide +kernel) (by decide +kernel) (by decide +kernel) (fun _ _ _ h => h) (Or.inl ⟨by rfl, ?_⟩) hHeld ?_
                    rotate_left
                    · intro wS hS; obtain ⟨hbl, p0, p1, p2, p3, p4, p5, p6⟩ := hS.its.cells hkl y HY.out; go_simp; (try with_reducible rfl)
                    simp only [Act.put, List.getElem_toArray, List.getElem_cons_succ, List.getElem_cons_zero, List.setIfInBounds_toArray, List.set_cons_succ, List.set_cons_zero]
                    refine wpAnyL_take (i := 7) (f0 := 39) (v := ?_) rfl (by decide +kernel) (by decide +kernel) (by decide +kernel) (by decide +kernel) (by decide +kernel) (fun _ _ _ h => h) (Or.inl ⟨by rfl, ?_⟩) hHeld ?_
                    rotate_left
                    · intro wS hS; go_simp; (try with_reducible rfl)
                    simp only [Act.put, List.getElem_toArray, List.getElem_cons_succ, List.getElem_cons_zero, List.setIfInBounds_toArray, List.set_cons_succ, List.set_cons_zero]
                    refine wpAnyL_take (i := 8) (f0 := 39) (v := ?_) rfl (by decide +kernel) (by decide +kernel) (by decide +kernel) (by decide +kernel) (by decide +kernel) (fun _ _ _ h => h) (Or.inl ⟨by rfl, ?_⟩) hHeld ?_
                    rotate_left
                    · intro wS hS; have c9 := iCells0 hS.row; go_simp; (try with_reducible rfl)
                    simp only [Act.put, List.getElem_toArray, List.getElem_cons_succ, List.getElem_cons_zero, List.setIfInBounds_toArray, List.set_cons_succ, List.set_cons_zero]
                    refine wpAnyL_take (i := 9) (f0 := 39) (v := ?_) rfl (by decide +kernel) (by decide +kernel) (by decide +kernel) (by decide +kernel) (by decide +kernel) (fun _ _ _ h => h) (Or.inl ⟨by rfl, ?_⟩) hHeld ?_
                    rotate_left
                    · intro wS hS; go_simp; (try with_reducible rfl)
                    simp only [Act.put, List.getElem_toArray, List.getElem_cons_succ, List.getElem_cons_zero, List.setIfInBounds_toArray, List.set_cons_succ, List.set_cons_zero]
                    refine wpAnyL_take (i := 10) (f0 := 39) (v := ?_) rfl (by decide +kernel) (by decide +kernel) (by decide +kernel) (by decide +kernel) (by decide +kernel) (fun _ _ _ h => h) (Or.inl ⟨by rfl, ?_⟩) hHeld ?_
                    rotate_left
                    · intro wS hS; go_simp; (try with_reducible rfl)
                    simp only [Act.put, List.getElem_toArray, List.getElem_cons_succ, List.getElem_cons_zero, List.setIfInBounds_toArray, List.set_cons_succ, List.set_cons_zero]
                    refine wpAnyL_take (i := 11) (f0 := 39) (v := ?_) rfl (by decide +kernel) (by decide +kernel) (by decide +kernel) (by decide +kernel) (by decide +kernel) (fun _ _ _ h => h) (Or.inl ⟨by rfl, ?_⟩) hHeld ?_
                    rotate_left
                    · intro wS hS; go_simp; (try with_reducible rfl)
                    simp only [Act.put, List.getElem_toArray, List.getElem_cons_succ, List.getElem_cons_zero, List.setIfInBounds_toArray, List.set_cons_succ, List.set_cons_zero]
                    refine wpAnyL_take (i := 12) (f0 := 39) (v := ?_) rfl (by decide +kernel) (by decide +kernel) (by decide +kernel) (by decide +kernel) (by decide +kernel) (fun _ _ _ h => h) (Or.inl ⟨by rfl, ?_⟩) hHeld ?_
                    rotate_left
                    · intro wS hS; obtain ⟨hbl, p0, p1, p2, p3, p4, p5, p6⟩ := hS.its.cells hil x HX.out; go_simp; (try with_reducible rfl)
                    simp only [Act.put, List.getElem_toArray, List.getElem_cons_succ, List.getElem_cons_zero, List.setIfInBounds_toArray, List.set_cons_succ, List.set_cons_zero]
                    refine wpAnyL_take (i := 14) (f0 := 39) (v := ?_) rfl (by decide +kernel) (by decide +kernel) (by decide +kernel) (by decide +kernel) (by decide +kernel) (fun _ _ _ h => h) (Or.inl ⟨by rfl, ?_⟩) hHeld ?_
                    rotate_left
                    · intro wS hS; go_simp; (try with_reducible rfl)
                    simp only [Act.put, List.getElem_toArray, List.getElem_cons_succ, List.getElem_cons_zero, List.setIfInBounds_toArray, List.set_cons_succ, List.set_cons_zero]
                    refine wpAnyL_take (i := 15) (f0 := 39) (v := ?_) rfl (by decide +kernel) (by decide +kernel) (by decide +kernel) (by decide +kernel) (by decide +kernel) (fun _ _ _ h => h) (Or.inl ⟨by rfl, ?_⟩) hHeld ?_
                    rotate_left
                    · intro wS hS; go_simp; (try with_reducible rfl)
                    simp only [Act.put, List.getElem_toArray, List.getElem_cons_succ, List.getElem_cons_zero, List.setIfInBounds_toArray, List.set_cons_succ, List.set_cons_zero]
                    refine wpAnyL_take (i := 16) (f0 := 39) (v := ?_) rfl (by decide +kernel) (by decide +kernel) (by decide +kernel) (by decide +kernel) (by decide +kernel) (fun _ _ _ h => h) (Or.inl ⟨by rfl, ?_⟩) hHeld ?_
                    rotate_left
                    · intro wS hS; go_simp; (try with_reducible rfl)
                    simp only [Act.put, List.getElem_toArray, List.getElem_cons_succ, List.getElem_cons_zero, List.setIfInBounds_toArray, List.set_cons_succ, List.set_cons_zero]
                    refine wpAnyL_one (i := 13) (by decide +kernel) (by rfl) (fun K hK => ?_)
                    rw [if_pos (by rfl)]
                    go_simp
                    refine (Code.under_of l (some ⟨b, off, none⟩) n c HL.out HW.out (by omega) y.id x.id u2 hHeld.its false HU.out).mono ?_
                    rintro e u7 ⟨rfl, hx7⟩
                    have hHeld7 : CS w.heap.size (some ⟨b, off, none⟩) n c l A7 L u7 := hHeld.below hx7
                    have hbd7 := bnext hbd hx7
                    refine hK.out _ _ (Or.inr hHeld7) ?_
                    clear hK K hHeld hbd hx7
                    try simp only [Act.put, List.getElem_toArray, List.getElem_cons_succ, List.getElem_cons_zero, List.setIfInBounds_toArray, List.set_cons_succ, List.set_cons_zero]
                    refine wpAnyL_take (i := 17) (f0 := 39) (v := ?_) rfl (by decide +kernel) (by decide +kernel) (by decide +kernel) (by decide +kernel) (by decide +kernel) (fun _ _ _ h => h) (Or.inl ⟨by rfl, ?_⟩) hHeld7 ?_
                    rotate_left
                    · intro wS hS; go_simp; (try with_reducible rfl)
                    simp only [Act.put, List.getElem_toArray, List.getElem_cons_succ, List.getElem_cons_zero, List.setIfInBounds_toArray, List.set_cons_succ, List.set_cons_zero]
                    refine wpAnyL_take (i := 18) (f0 := 39) (v := ?_) rfl (by decide +kernel) (by decide +kernel) (by decide +kernel) (by decide +kernel) (by decide +kernel) (fun _ _ _ h => h) (Or.inl ⟨by rfl, ?_⟩) hHeld7 ?_
                    rotate_left
                    · intro wS hS; go_simp; (try with_reducible rfl)
                    simp only [Act.put, List.getElem_toArray, List.getElem_cons_succ, List.getElem_cons_zero, List.setIfInBounds_toArray, List.set_cons_succ, List.set_cons_zero]
                    refine wpAnyL_take (i := 19) (f0 := 39) (v := ?_) rfl (by decide +kernel) (by decide +kernel) (by decide +kernel) (by decide +kernel) (by decide +kernel) (fun _ _ _ h => h) (Or.inl ⟨by rfl, ?_⟩) hHeld7 ?_
                    rotate_left
                    · intro wS hS; go_simp; (try with_reducible rfl)
                    simp only [Act.put, List.getElem_toArray, List.getElem_cons_succ, List.getElem_cons_zero, List.setIfInBounds_toArray, List.set_cons_succ, List.set_cons_zero]
                    refine wpAnyL_take (i := 20) (f0 := 39) (v := ?_) rfl (by decide +kernel) (by decide +kernel) (by decide +kernel) (by decide +kernel) (by decide +kernel) (fun _ _ _ h => h) (Or.inl ⟨by rfl, ?_⟩) hHeld7 ?_
                    rotate_left
                    · intro wS hS; go_simp; (try with_reducible rfl)
                    simp only [Act.put, List.getElem_toArray, List.getElem_cons_succ, List.getElem_cons_zero, List.setIfInBounds_toArray, List.set_cons_succ, List.set_cons_zero]
                    refine wpAnyL_take (i := 21) (f0 := 39) (v := ?_) rfl (by decide +kernel) (by decide +kernel) (by decide +kernel) (by decide +kernel) (by decide +kernel) (fun _ _ _ h => h) (Or.inl ⟨by rfl, ?_⟩) hHeld7 ?_
                    rotate_left
                    · intro wS hS; go_simp; (try with_reducible rfl)
                    simp only [Act.put, List.getElem_toArray, List.getElem_cons_succ, List.getElem_cons_zero, List.setIfInBounds_toArray, List.set_cons_succ, List.set_cons_zero]
                    refine wpAnyL_take (i := 22) (f0 := 39) (v := ?_) rfl (by decide +kernel) (by decide +kernel) (by decide +kernel) (by decide +kernel) (by decide +kernel) (fun _ _ _ h => h) (Or.inl ⟨by rfl, ?_⟩) hHeld7 ?_
                    rotate_left
                    · intro wS hS; go_simp; (try with_reducible rfl)
                    simp only [Act.put, List.getElem_toArray, List.getElem_cons_succ, List.getElem_cons_zero, List.setIfInBounds_toArray, List.set_cons_succ, List.set_cons_zero]
                    refine wpAnyL_take (i := 23) (f0 := 39) (v := ?_) rfl (by decide +kernel) (by decide +kernel) (by decide +kernel) (by decide +kernel) (by decide +kernel) (fun _ _ _ h => h) (Or.inl ⟨by rfl, ?_⟩) hHeld7 ?_
                    rotate_left
                    · intro wS hS; go_simp; (try with_reducible rfl)
                    simp only [Act.put, List.getElem_toArray, List.getElem_cons_succ, List.getElem_cons_zero, List.setIfInBounds_toArray, List.set_cons_succ, List.set_cons_zero]
                    refine wpAnyL_take (i := 24) (f0 := 39) (v := ?_) rfl (by decide +kernel) (by decide +kernel) (by decide +kernel) (by decide +kernel) (by decide +kernel) (fun _ _ _ h => h) (Or.inl ⟨by rfl, ?_⟩) hHeld7 ?_
                    rotate_left
                    · intro wS hS; go_simp; (try with_reducible rfl)
                    simp only [Act.put, List.getElem_toArray, List.getElem_cons_succ, List.getElem_cons_zero, List.setIfInBounds_toArray, List.set_cons_succ, List.set_cons_zero]
                    refine wpAnyL_take (i := 25) (f0 := 39) (v := ?_) rfl (by decide +kernel) (by decide +kernel) (by decide +kernel) (by decide +kernel) (by decide +kernel) (fun _ _ _ h => h) (Or.inl ⟨by rfl, ?_⟩) hHeld7 ?_
                    rotate_left
                    · intro wS hS; go_simp; (try with_reducible rfl)
                    simp only [Act.put, List.getElem_toArray, List.getElem_cons_succ, List.getElem_cons_zero, List.setIfInBounds_toArray, List.set_cons_succ, List.set_cons_zero]
                    refine wpAnyL_take (i := 26) (f0 := 39) (v := ?_) rfl (by decide +kernel) (by decide +kernel) (by decide +kernel) (by decide +kernel) (by decide +kernel) (fun _ _ _ h => h) (Or.inl ⟨by rfl, ?_⟩) hHeld7 ?_
                    rotate_left
                    · intro wS hS; go_simp; (try with_reducible rfl)
                    simp only [Act.put, List.getElem_toArray, List.getElem_cons_succ, List.getElem_cons_zero, List.setIfInBounds_toArray, List.set_cons_succ, List.set_cons_zero]
                    refine wpAnyL_take (i := 27) (f0 := 39) (v := ?_) rfl (by decide +kernel) (by decide +kernel) (by decide +kernel) (by decide +kernel) (by decide +kernel) (fun _ _ _ h => h) (Or.inl ⟨by rfl, ?_⟩) hHeld7 ?_
                    rotate_left
                    · intro wS hS; have c9 := iCells0 hS.row; go_simp; (try with_reducible rfl)
                    simp only [Act.put, List.getElem_toArray, List.getElem_cons_succ, List.getElem_cons_zero, List.setIfInBounds_toArray, List.set_cons_succ, List.set_cons_zero]
                    refine wpAnyL_take (i := 28) (f0 := 39) (v := ?_) rfl (by decide +kernel) (by decide +kernel) (by decide +kernel) (by decide +kernel) (by decide +kernel) (fun _ _ _ h => h) (Or.inl ⟨by rfl, ?_⟩) hHeld7 ?_
                    rotate_left
                    · intro wS hS; go_simp; (try with_reducible rfl)
                    simp only [Act.put, List.getElem_toArray, List.getElem_cons_succ, List.getElem_cons_zero, List.setIfInBounds_toArray, List.set_cons_succ, List.set_cons_zero]
                    refine wpAnyL_take (i := 29) (f0 := 39) (v := ?_) rfl (by decide +kernel) (by decide +kernel) (by decide +kernel) (by decide +kernel) (by decide +kernel) (fun _ _ _ h => h) (Or.inl ⟨by rfl, ?_⟩) hHeld7 ?_
                    rotate_left
                    · intro wS hS; have c9 := iCells0 hS.row; go_simp; (try with_reducible rfl)
                    simp only [Act.put, List.getElem_toArray, List.getElem_cons_succ, List.getElem_cons_zero, List.setIfInBounds_toArray, List.set_cons_succ, List.set_cons_zero]
                    refine wpAnyL_take (i := 30) (f0 := 39) (v := ?_) rfl (by decide +kernel) (by decide +kernel) (by decide +kernel) (by decide +kernel) (by decide +kernel) (fun _ _ _ h => h) (Or.inl ⟨by rfl, ?_⟩) hHeld7 ?_
                    rotate_left
                    · intro wS hS; go_simp; (try with_reducible rfl)
                    simp only [Act.put, List.getElem_toArray, List.getElem_cons_succ, List.getElem_cons_zero, List.setIfInBounds_toArray, List.set_cons_succ, List.set_cons_zero]
                    refine wpAnyL_take (i := 31) (f0 := 39) (v := ?_) rfl (by decide +kernel) (by decide +kernel) (by decide +kernel) (by decide +kernel) (by decide +kernel) (fun _ _ _ h => h) (Or.inl ⟨by rfl, ?_⟩) hHeld7 ?_
                    rotate_left
                    · intro wS hS; go_simp; (try with_reducible rfl)
                    simp only [Act.put, List.getElem_toArray, List.getElem_cons_succ, List.getElem_cons_zero, List.setIfInBounds_toArray, List.set_cons_succ, List.set_cons_zero]
                    refine wpAnyL_take (i := 32) (f0 := 39) (v := ?_) rfl (by decide +kernel) (by decide +kernel) (by decide +kernel) (by decide +kernel) (by decide +kernel) (fun _ _ _ h => h) (Or.inl ⟨by rfl, ?_⟩) hHeld7 ?_
                    rotate_left
                    · intro wS hS; go_simp; (try with_reducible rfl)
                    simp only [Act.put, List.getElem_toArray, List.getElem_cons_succ, List.getElem_cons_zero, List.setIfInBounds_toArray, List.set_cons_succ, List.set_cons_zero]
                    refine wpAnyL_take (i := 33) (f0 := 39) (v := ?_) rfl (by decide +kernel) (by decide +kernel) (by decide +kernel) (by decide +kernel) (by decide +kernel) (fun _ _ _ h => h) (Or.inl ⟨by rfl, ?_⟩) hHeld7 ?_
                    rotate_left
                    · intro wS hS; obtain ⟨hbl, p0, p1, p2, p3, p4, p5, p6⟩ := hS.its.cells hkl y HY.out; go_simp; (try with_reducible rfl)
                    simp only [Act.put, List.getElem_toArray, List.getElem_cons_succ, List.getElem_cons_zero, List.setIfInBounds_toArray, List.set_cons_succ, List.set_cons_zero]
                    refine wpAnyL_one (i := 34) (by decide +kernel) (by rfl) (fun K hK => ?_)
                    rw [if_pos (by rfl)]
                    go_simp
                    refine (Code.under_of l (some ⟨b, off, none⟩) n c HL.out HW.out (by omega) y.id ⟨#[]⟩ u7 hHeld7.its true HN.out).mono ?_
                    rintro e u8 ⟨rfl, hx8⟩
                    have hHeld8 : CS w.heap.size (some ⟨b, off, none⟩) n c l A7 L u8 := hHeld7.below hx8
                    have hbd8 := bnext hbd7 hx8
                    refine hK.out _ _ (Or.inr hHeld8) ?_
                    clear hK K hHeld7 hbd7 hx8
                    try simp only [Act.put, List.getElem_toArray, List.getElem_cons_succ, List.getElem_cons_zero, List.setIfInBounds_toArray, List.set_cons_succ, List.set_cons_zero]
                    refine wpAnyL_take (i := 35) (f0 := 39) (v := ?_) rfl (by decide +kernel) (by decide +kernel) (by decide +kernel) (by decide +kernel) (by decide +kernel) (fun _ _ _ h => h) (Or.inl ⟨by rfl, ?_⟩) hHeld8 ?_
                    rotate_left
                    · intro wS hS; go_simp; (try with_reducible rfl)
                    simp only [Act.put, List.getElem_toArray, List.getElem_cons_succ, List.getElem_cons_zero, List.setIfInBounds_toArray, List.set_cons_succ, List.set_cons_zero]
                    refine wpAnyL_take (i := 36) (f0 := 39) (v := ?_) rfl (by decide +kernel) (by decide +kernel) (by decide +kernel) (by decide +kernel) (by decide +kernel) (fun _ _ _ h => h) (Or.inl ⟨by rfl, ?_⟩) hHeld8 ?_
                    rotate_left
                    · intro wS hS; go_simp; (try with_reducible rfl)
                    simp only [Act.put, List.getElem_toArray, List.getElem_cons_succ, List.getElem_cons_zero, List.setIfInBounds_toArray, List.set_cons_succ, List.set_cons_zero]
                    refine wpAnyL_done (by decide +kernel) ?_ _
                    refine NoPanic.normal ?_
                    have hc := iCells0 hHeld8.row
                    obtain ⟨_, y0, y1, y2, y3, y4, y5, y6⟩ := hHeld8.its.cells hkl y HY.out
                    clear d1 d2
                    go_upto_region 17 with (fail)
                    clear hc y0 y1 y2 y3 y4 y5 y6
                    refine wp_region_noPanic ?_
                    refine wp_region_L (CS w.heap.size (some ⟨b, off, none⟩) n c l A7 L) 14 hmx ?_
                    have hdr := (Below.refl u8.heap.size u8).drew
                    have hHeld9 : CS w.heap.size (some ⟨b, off, none⟩) n c l A7 L u8.drew := hHeld8.below hdr
                    have hbd9 := bnext hbd8 hdr
                    clear hdr hHeld8 hbd8
                    generalize u8.drew = u9 at *
                    have hpe : y.parent.toList.isEmpty = decide (y.parent = Dg.nil8) := (emp_iff _).symm
                    by_cases hp : y.parent = Dg.nil8
                    · have hpb : y.parent.toList.isEmpty = true := hpe.trans (decide_eq_true hp)
                      clear hp hpe
                      refine wpAnyL_take (i := 0) (f0 := 16) (v := ?_) rfl (by decide +kernel) (by decide +kernel) (by decide +kernel) (by decide +kernel) (by decide +kernel) (fun _ _ _ h => h) (Or.inl ⟨by rfl, ?_⟩) hHeld9 ?_
                      rotate_left
                      · intro wS hS; go_simp; (try with_reducible rfl)
                      simp only [Act.put, List.getElem_toArray, List.getElem_cons_succ, List.getElem_cons_zero, List.setIfInBounds_toArray, List.set_cons_succ, List.set_cons_zero]
                      refine wpAnyL_take (i := 1) (f0 := 16) (v := ?_) rfl (by decide +kernel) (by decide +kernel) (by decide +kernel) (by decide +kernel) (by decide +kernel) (fun _ _ _ h => h) (Or.inl ⟨by rfl, ?_⟩) hHeld9 ?_
                      rotate_left
                      · intro wS hS; go_simp; (try with_reducible rfl)
                      simp only [Act.put, List.getElem_toArray, List.getElem_cons_succ, List.getElem_cons_zero, List.setIfInBounds_toArray, List.set_cons_succ, List.set_cons_zero]
                      refine wpAnyL_take (i := 2) (f0 := 16) (v := ?_) rfl (by decide +kernel) (by decide +kernel) (by decide +kernel) (by decide +kernel) (by decide +kernel) (fun _ _ _ h => h) (Or.inl ⟨by rfl, ?_⟩) hHeld9 ?_
                      rotate_left
                      · intro wS hS; go_simp; (try with_reducible rfl)
                      simp only [Act.put, List.getElem_toArray, List.getElem_cons_succ, List.getElem_cons_zero, List.setIfInBounds_toArray, List.set_cons_succ, List.set_cons_zero]
                      refine wpAnyL_take (i := 3) (f0 := 16) (v := undef) rfl (by decide +kernel) (by decide +kernel) (by decide +kernel) (by decide +kernel) (by decide +kernel) (fun _ _ _ h => h) (Or.inr ⟨by rfl, rfl⟩) hHeld9 ?_
                      simp only [Act.put, List.getElem_toArray, List.getElem_cons_succ, List.getElem_cons_zero, List.setIfInBounds_toArray, List.set_cons_succ, List.set_cons_zero]
                      refine wpAnyL_take (i := 4) (f0 := 16) (v := undef) rfl (by decide +kernel) (by decide +kernel) (by decide +kernel) (by decide +kernel) (by decide +kernel) (fun _ _ _ h => h) (Or.inr ⟨by rfl, rfl⟩) hHeld9 ?_
                      simp only [Act.put, List.getElem_toArray, List.getElem_cons_succ, List.getElem_cons_zero, List.setIfInBounds_toArray, List.set_cons_succ, List.set_cons_zero]
                      refine wpAnyL_take (i := 5) (f0 := 16) (v := undef) rfl (by decide +kernel) (by decide +kernel) (by decide +kernel) (by decide +kernel) (by decide +kernel) (fun _ _ _ h => h) (Or.inr ⟨by rfl, rfl⟩) hHeld9 ?_
                      simp only [Act.put, List.getElem_toArray, List.getElem_cons_succ, List.getElem_cons_zero, List.setIfInBounds_toArray, List.set_cons_succ, List.set_cons_zero]
                      refine wpAnyL_take (i := 6) (f0 := 16) (v := undef) rfl (by decide +kernel) (by decide +kernel) (by decide +kernel) (by decide +kernel) (by decide +kernel) (fun _ _ _ h => h) (Or.inr ⟨by rfl, rfl⟩) hHeld9 ?_
                      simp only [Act.put, List.getElem_toArray, List.getElem_cons_succ, List.getElem_cons_zero, List.setIfInBounds_toArray, List.set_cons_succ, List.set_cons_zero]
                      refine wpAnyL_take (i := 7) (f0 := 16) (v := undef) rfl (by decide +kernel) (by decide +kernel) (by decide +kernel) (by decide +kernel) (by decide +kernel) (fun _ _ _ h => h) (Or.inr ⟨by rfl, rfl⟩) hHeld9 ?_
                      simp only [Act.put, List.getElem_toArray, List.getElem_cons_succ, List.getElem_cons_zero, List.setIfInBounds_toArray, List.set_cons_succ, List.set_cons_zero]
                      refine wpAnyL_take (i := 8) (f0 := 16) (v := undef) rfl (by decide +kernel) (by decide +kernel) (by decide +kernel) (by decide +kernel) (by decide +kernel) (fun _ _ _ h => h) (Or.inr ⟨by rfl, rfl⟩) hHeld9 ?_
                      simp only [Act.put, List.getElem_toArray, List.getElem_cons_succ, List.getElem_cons_zero, List.setIfInBounds_toArray, List.set_cons_succ, List.set_cons_zero]
                      refine wpAnyL_take (i := 9) (f0 := 16) (v := undef) rfl (by decide +kernel) (by decide +kernel) (by decide +kernel) (by decide +kernel) (by decide +kernel) (fun _ _ _ h => h) (Or.inr ⟨by rfl, rfl⟩) hHeld9 ?_
                      simp only [Act.put, List.getElem_toArray, List.getElem_cons_succ, List.getElem_cons_zero, List.setIfInBounds_toArray, List.set_cons_succ, List.set_cons_zero]
                      refine wpAnyL_take (i := 10) (f0 := 16) (v := undef) rfl (by decide +kernel) (by decide +kernel) (by decide +kernel) (by decide +kernel) (by decide +kernel) (fun _ _ _ h => h) (Or.inr ⟨by rfl, rfl⟩) hHeld9 ?_
                      simp only [Act.put, List.getElem_toArray, List.getElem_cons_succ, List.getElem_cons_zero, List.setIfInBounds_toArray, List.set_cons_succ, List.set_cons_zero]
                      refine wpAnyL_take (i := 11) (f0 := 16) (v := undef) rfl (by decide +kernel) (by decide +kernel) (by decide +kernel) (by decide +kernel) (by decide +kernel) (fun _ _ _ h => h) (Or.inr ⟨by rfl, rfl⟩) hHeld9 ?_
                      simp only [Act.put, List.getElem_toArray, List.getElem_cons_succ, List.getElem_cons_zero, List.setIfInBounds_toArray, List.set_cons_succ, List.set_cons_zero]
                      refine wpAnyL_take (i := 12) (f0 := 16) (v := undef) rfl (by decide +kernel) (by decide +kernel) (by decide +kernel) (by decide +kernel) (by decide +kernel) (fun _ _ _ h => h) (Or.inr ⟨by rfl, rfl⟩) hHeld9 ?_
                      simp only [Act.put, List.getElem_toArray, List.getElem_cons_succ, List.getElem_cons_zero, List.setIfInBounds_toArray, List.set_cons_succ, List.set_cons_zero]
                      refine wpAnyL_take (i := 13) (f0 := 16) (v := ?_) rfl (by decide +kernel) (by decide +kernel) (by decide +kernel) (by decide +kernel) (by decide +kernel) (fun _ _ _ h => h) (Or.inl ⟨by rfl, ?_⟩) hHeld9 ?_
                      rotate_left
                      · intro wS hS; go_simp; (try with_reducible rfl)
                      simp only [Act.put, List.getElem_toArray, List.getElem_cons_succ, List.getElem_cons_zero, List.setIfInBounds_toArray, List.set_cons_succ, List.set_cons_zero]
                      refine wpAnyL_done (by decide +kernel) ?_ _
                      refine NoPanic.normal ?_
                      go_wp2
                      go_roundw
                      case rel => exact ⟨k + 1, by omega, by go_num, hHeld9, hbd9⟩
                      case measure => simp [intOf]; omega
                    · have hpb : y.parent.toList.isEmpty = false := hpe.trans (decide_eq_false hp)
                      have HPP := hide (HP.out hp)
                      clear hp hpe
                      refine wpAnyL_take (i := 0) (f0 := 16) (v := ?_) rfl (by decide +kernel) (by decide +kernel) (by decide +kernel) (by decide +kernel) (by decide +kernel) (fun _ _ _ h => h) (Or.inl ⟨by rfl, ?_⟩) hHeld9 ?_
                      rotate_left
                      · intro wS hS; go_simp; (try with_reducible rfl)
                      simp only [Act.put, List.getElem_toArray, List.getElem_cons_succ, List.getElem_cons_zero, List.setIfInBounds_toArray, List.set_cons_succ, List.set_cons_zero]
                      refine wpAnyL_take (i := 1) (f0 := 16) (v := ?_) rfl (by decide +kernel) (by decide +kernel) (by decide +kernel) (by decide +kernel) (by decide +kernel) (fun _ _ _ h => h) (Or.inl ⟨by rfl, ?_⟩) hHeld9 ?_
                      rotate_left
                      · intro wS hS; go_simp; (try with_reducible rfl)
                      simp only [Act.put, List.getElem_toArray, List.getElem_cons_succ, List.getElem_cons_zero, List.setIfInBounds_toArray, List.set_cons_succ, List.set_cons_zero]
                      refine wpAnyL_take (i := 2) (f0 := 16) (v := ?_) rfl (by decide +kernel) (by decide +kernel) (by decide +kernel) (by decide +kernel) (by decide +kernel) (fun _ _ _ h => h) (Or.inl ⟨by rfl, ?_⟩) hHeld9 ?_
                      rotate_left
                      · intro wS hS; go_simp; (try with_reducible rfl)
                      simp only [Act.put, List.getElem_toArray, List.getElem_cons_succ, List.getElem_cons_zero, List.setIfInBounds_toArray, List.set_cons_succ, List.set_cons_zero]
                      refine wpAnyL_take (i := 3) (f0 := 16) (v := ?_) rfl (by decide +kernel) (by decide +kernel) (by decide +kernel) (by decide +kernel) (by decide +kernel) (fun _ _ _ h => h) (Or.inl ⟨by rfl, ?_⟩) hHeld9 ?_
                      rotate_left
                      · intro wS hS; have c9 := iCells0 hS.row; go_simp; (try with_reducible rfl)
                      simp only [Act.put, List.getElem_toArray, List.getElem_cons_succ, List.getElem_cons_zero, List.setIfInBounds_toArray, List.set_cons_succ, List.set_cons_zero]
                      refine wpAnyL_take (i := 4) (f0 := 16) (v := ?_) rfl (by decide +kernel) (by decide +kernel) (by decide +kernel) (by decide +kernel) (by decide +kernel) (fun _ _ _ h => h) (Or.inl ⟨by rfl, ?_⟩) hHeld9 ?_
                      rotate_left
                      · intro wS hS; go_simp; (try with_reducible rfl)
                      simp only [Act.put, List.getElem_toArray, List.getElem_cons_succ, List.getElem_cons_zero, List.setIfInBounds_toArray, List.set_cons_succ, List.set_cons_zero]
                      refine wpAnyL_take (i := 5) (f0 := 16) (v := ?_) rfl (by decide +kernel) (by decide +kernel) (by decide +kernel) (by decide +kernel) (by decide +kernel) (fun _ _ _ h => h) (Or.inl ⟨by rfl, ?_⟩) hHeld9 ?_
                      rotate_left
                      · intro wS hS; have c9 := iCells0 hS.row; go_simp; (try with_reducible rfl)
                      simp only [Act.put, List.getElem_toArray, List.getElem_cons_succ, List.getElem_cons_zero, List.setIfInBounds_toArray, List.set_cons_succ, List.set_cons_zero]
                      refine wpAnyL_take (i := 6) (f0 := 16) (v := ?_) rfl (by decide +kernel) (by decide +kernel) (by decide +kernel) (by decide +kernel) (by decide +kernel) (fun _ _ _ h => h) (Or.inl ⟨by rfl, ?_⟩) hHeld9 ?_
                      rotate_left
                      · intro wS hS; go_simp; (try with_reducible rfl)
                      simp only [Act.put, List.getElem_toArray, List.getElem_cons_succ, List.getElem_cons_zero, List.setIfInBounds_toArray, List.set_cons_succ, List.set_cons_zero]
                      refine wpAnyL_take (i := 7) (f0 := 16) (v := ?_) rfl (by decide +kernel) (by decide +kernel) (by decide +kernel) (by decide +kernel) (by decide +kernel) (fun _ _ _ h => h) (Or.inl ⟨by rfl, ?_⟩) hHeld9 ?_
                      rotate_left
                      · intro wS hS; go_simp; (try with_reducible rfl)
                      simp only [Act.put, List.getElem_toArray, List.getElem_cons_succ, List.getElem_cons_zero, List.setIfInBounds_toArray, List.set_cons_succ, List.set_cons_zero]
                      refine wpAnyL_take (i := 8) (f0 := 16) (v := ?_) rfl (by decide +kernel) (by decide +kernel) (by decide +kernel) (by decide +kernel) (by decide +kernel) (fun _ _ _ h => h) (Or.inl ⟨by rfl, ?_⟩) hHeld9 ?_
                      rotate_left
                      · intro wS hS; go_simp; (try with_reducible rfl)
                      simp only [Act.put, List.getElem_toArray, List.getElem_cons_succ, List.getElem_cons_zero, List.setIfInBounds_toArray, List.set_cons_succ, List.set_cons_zero]
                      refine wpAnyL_take (i := 9) (f0 := 16) (v := ?_) rfl (by decide +kernel) (by decide +kernel) (by decide +kernel) (by decide +kernel) (by decide +kernel) (fun _ _ _ h => h) (Or.inl ⟨by rfl, ?_⟩) hHeld9 ?_
                      rotate_left
                      · intro wS hS; obtain ⟨hbl, p0, p1, p2, p3, p4, p5, p6⟩ := hS.its.cells hkl y HY.out; go_simp; (try with_reducible rfl)
                      simp only [Act.put, List.getElem_toArray, List.getElem_cons_succ, List.getElem_cons_zero, List.setIfInBounds_toArray, List.set_cons_succ, List.set_cons_zero]
                      refine wpAnyL_take (i := 10) (f0 := 16) (v := ?_) rfl (by decide +kernel) (by decide +kernel) (by decide +kernel) (by decide +kernel) (by decide +kernel) (fun _ _ _ h => h) (Or.inl ⟨by rfl, ?_⟩) hHeld9 ?_
                      rotate_left
                      · intro wS hS; go_simp; (try with_reducible rfl)
                      simp only [Act.put, List.getElem_toArray, List.getElem_cons_succ, List.getElem_cons_zero, List.setIfInBounds_toArray, List.set_cons_succ, List.set_cons_zero]
                      refine wpAnyL_one (i := 11) (by decide +kernel) (by rfl) (fun K hK => ?_)
                      rw [if_pos (by rfl)]
                      go_simp
                      refine (Code.under_of l (some ⟨b, off, none⟩) n c HL.out HW.out (by omega) y.id y.parent u9 hHeld9.its true HPP.out).mono ?_
                      rintro e u10 ⟨rfl, hx10⟩
                      have hHeld10 : CS w.heap.size (some ⟨b, off, none⟩) n c l A7 L u10 := hHeld9.below hx10
                      have hbd10 := bnext hbd9 hx10
                      refine hK.out _ _ (Or.inr hHeld10) ?_
                      clear hK K hHeld9 hbd9 hx10
                      try simp only [Act.put, List.getElem_toArray, List.getElem_cons_succ, List.getElem_cons_zero, List.setIfInBounds_toArray, List.set_cons_succ, List.set_cons_zero]
                      refine wpAnyL_take (i := 12) (f0 := 16) (v := ?_) rfl (by decide +kernel) (by decide +kernel) (by decide +kernel) (by decide +kernel) (by decide +kernel) (fun _ _ _ h => h) (Or.inl ⟨by rfl, ?_⟩) hHeld10 ?_
                      rotate_left
                      · intro wS hS; go_simp; (try with_reducible rfl)
                      simp only [Act.put, List.getElem_toArray, List.getElem_cons_succ, List.getElem_cons_zero, List.setIfInBounds_toArray, List.set_cons_succ, List.set_cons_zero]
                      refine wpAnyL_take (i := 13) (f0 := 16) (v := ?_) rfl (by decide +kernel) (by decide +kernel) (by decide +kernel) (by decide +kernel) (by decide +kernel) (fun _ _ _ h => h) (Or.inl ⟨by rfl, ?_⟩) hHeld10 ?_
                      rotate_left
                      · intro wS hS; go_simp; (try with_reducible rfl)
                      simp only [Act.put, List.getElem_toArray, List.getElem_cons_succ, List.getElem_cons_zero, List.setIfInBounds_toArray, List.set_cons_succ, List.set_cons_zero]
                      refine wpAnyL_done (by decide +kernel) ?_ _
                      refine NoPanic.normal ?_
                      go_wp2
                      go_roundw
                      case rel => exact ⟨k + 1, by omega, by go_num, hHeld10, hbd10⟩
                      case measure => simp [intOf]; omega
                · have d1 : ¬ (i : Int) < (k : Int) := by omega
                  obtain rfl : U = false := by rw [hU2]; exact decide_eq_false (fun h => hik h.1)
                  have HU := hide hU
                  clear hU hU2
                  refine wpAnyL_take (i := 0) (f0 := 39) (v := ?_) rfl (by decide +kernel) (by decide +kernel) (by decide +kernel) (by decide +kernel) (by decide +kernel) (fun _ _ _ h => h) (Or.inl ⟨by rfl, ?_⟩) hHeld ?_
                  rotate_left
                  · intro wS hS; have c9 := iCells0 hS.row; go_simp; (try with_reducible rfl)
                  simp only [Act.put, List.getElem_toArray, List.getElem_cons_succ, List.getElem_cons_zero, List.setIfInBounds_toArray, List.set_cons_succ, List.set_cons_zero]
                  refine wpAnyL_take (i := 1) (f0 := 39) (v := ?_) rfl (by decide +kernel) (by decide +kernel) (by decide +kernel) (by decide +kernel) (by decide +kernel) (fun _ _ _ h => h) (Or.inl ⟨by rfl, ?_⟩) hHeld ?_
                  rotate_left
                  · intro wS hS; go_simp; (try with_reducible rfl)
                  simp only [Act.put, List.getElem_toArray, List.getElem_cons_succ, List.getElem_cons_zero, List.setIfInBounds_toArray, List.set_cons_succ, List.set_cons_zero]
                  refine wpAnyL_take (i := 2) (f0 := 39) (v := ?_) rfl (by decide +kernel) (by decide +kernel) (by decide +kernel) (by decide +kernel) (by decide +kernel) (fun _ _ _ h => h) (Or.inl ⟨by rfl, ?_⟩) hHeld ?_
                  rotate_left
                  · intro wS hS; have c9 := iCells0 hS.row; go_simp; (try with_reducible rfl)
                  simp only [Act.put, List.getElem_toArray, List.getElem_cons_succ, List.getElem_cons_zero, List.setIfInBounds_toArray, List.set_cons_succ, List.set_cons_zero]
                  refine wpAnyL_take (i := 3) (f0 := 39) (v := ?_) rfl (by decide +kernel) (by decide +kernel) (by decide +kernel) (by decide +kernel) (by decide +kernel) (fun _ _ _ h => h) (Or.inl ⟨by rfl, ?_⟩) hHeld ?_
                  rotate_left
                  · intro wS hS; go_simp; (try with_reducible rfl)
                  simp only [Act.put, List.getElem_toArray, List.getElem_cons_succ, List.getElem_cons_zero, List.setIfInBounds_toArray, List.set_cons_succ, List.set_cons_zero]
                  refine wpAnyL_take (i := 4) (f0 := 39) (v := ?_) rfl (by decide +kernel) (by decide +kernel) (by decide +kernel) (by decide +kernel) (by decide +kernel) (fun _ _ _ h => h) (Or.inl ⟨by rfl, ?_⟩) hHeld ?_
                  rotate_left
                  · intro wS hS; go_simp; (try with_reducible rfl)
                  simp only [Act.put, List.getElem_toArray, List.getElem_cons_succ, List.getElem_cons_zero, List.setIfInBounds_toArray, List.set_cons_succ, List.set_cons_zero]
                  refine wpAnyL_take (i := 5) (f0 := 39) (v := ?_) rfl (by decide +kernel) (by decide +kernel) (by decide +kernel) (by decide +kernel) (by decide +kernel) (fun _ _ _ h => h) (Or.inl ⟨by rfl, ?_⟩) hHeld ?_
                  rotate_left
                  · intro wS hS; go_simp; (try with_reducible rfl)
                  simp only [Act.put, List.getElem_toArray, List.getElem_cons_succ, List.getElem_cons_zero, List.setIfInBounds_toArray, List.set_cons_succ, List.set_cons_zero]
                  refine wpAnyL_take (i := 6) (f0 := 39) (v := ?_) rfl (by decide +kernel) (by decide +kernel) (by decide +kernel) (by decide +kernel) (by decide +kernel) (fun _ _ _ h => h) (Or.inl ⟨by rfl, ?_⟩) hHeld ?_
                  rotate_left
                  · intro wS hS; obtain ⟨hbl, p0, p1, p2, p3, p4, p5, p6⟩ := hS.its.cells hkl y HY.out; go_simp; (try with_reducible rfl)
                  simp only [Act.put, List.getElem_toArray, List.getElem_cons_succ, List.getElem_cons_zero, List.setIfInBounds_toArray, List.set_cons_succ, List.set_cons_zero]
                  refine wpAnyL_take (i := 7) (f0 := 39) (v := ?_) rfl (by decide +kernel) (by decide +kernel) (by decide +kernel) (by decide +kernel) (by decide +kernel) (fun _ _ _ h => h) (Or.inl ⟨by rfl, ?_⟩) hHeld ?_
                  rotate_left
                  · intro wS hS; go_simp; (try with_reducible rfl)
                  simp only [Act.put, List.getElem_toArray, List.getElem_cons_succ, List.getElem_cons_zero, List.setIfInBounds_toArray, List.set_cons_succ, List.set_cons_zero]
                  refine wpAnyL_take (i := 8) (f0 := 39) (v := ?_) rfl (by decide +kernel) (by decide +kernel) (by decide +kernel) (by decide +kernel) (by decide +kernel) (fun _ _ _ h => h) (Or.inl ⟨by rfl, ?_⟩) hHeld ?_
                  rotate_left
                  · intro wS hS; have c9 := iCells0 hS.row; go_simp; (try with_reducible rfl)
                  simp only [Act.put, List.getElem_toArray, List.getElem_cons_succ, List.getElem_cons_zero, List.setIfInBounds_toArray, List.set_cons_succ, List.set_cons_zero]
                  refine wpAnyL_take (i := 9) (f0 := 39) (v := ?_) rfl (by decide +kernel) (by decide +kernel) (by decide +kernel) (by decide +kernel) (by decide +kernel) (fun _ _ _ h => h) (Or.inl ⟨by rfl, ?_⟩) hHeld ?_
                  rotate_left
                  · intro wS hS; go_simp; (try with_reducible rfl)
                  simp only [Act.put, List.getElem_toArray, List.getElem_cons_succ, List.getElem_cons_zero, List.setIfInBounds_toArray, List.set_cons_succ, List.set_cons_zero]
                  refine wpAnyL_take (i := 10) (f0 := 39) (v := ?_) rfl (by decide +kernel) (by decide +kernel) (by decide +kernel) (by decide +kernel) (by decide +kernel) (fun _ _ _ h => h) (Or.inl ⟨by rfl, ?_⟩) hHeld ?_
                  rotate_left
                  · intro wS hS; go_simp; (try with_reducible rfl)
                  simp only [Act.put, List.getElem_toArray, List.getElem_cons_succ, List.getElem_cons_zero, List.setIfInBounds_toArray, List.set_cons_succ, List.set_cons_zero]
                  refine wpAnyL_take (i := 11) (f0 := 39) (v := ?_) rfl (by decide +kernel) (by decide +kernel) (by decide +kernel) (by decide +kernel) (by decide +kernel) (fun _ _ _ h => h) (Or.inl ⟨by rfl, ?_⟩) hHeld ?_
                  rotate_left
                  · intro wS hS; go_simp; (try with_reducible rfl)
                  simp only [Act.put, List.getElem_toArray, List.getElem_cons_succ, List.getElem_cons_zero, List.setIfInBounds_toArray, List.set_cons_succ, List.set_cons_zero]
                  refine wpAnyL_take (i := 12) (f0 := 39) (v := ?_) rfl (by decide +kernel) (by decide +kernel) (by decide +kernel) (by decide +kernel) (by decide +kernel) (fun _ _ _ h => h) (Or.inl ⟨by rfl, ?_⟩) hHeld ?_
                  rotate_left
                  · intro wS hS; obtain ⟨hbl, p0, p1, p2, p3, p4, p5, p6⟩ := hS.its.cells hil x HX.out; go_simp; (try with_reducible rfl)
                  simp only [Act.put, List.getElem_toArray, List.getElem_cons_succ, List.getElem_cons_zero, List.setIfInBounds_toArray, List.set_cons_succ, List.set_cons_zero]
                  refine wpAnyL_take (i := 14) (f0 := 39) (v := ?_) rfl (by decide +kernel) (by decide +kernel) (by decide +kernel) (by decide +kernel) (by decide +kernel) (fun _ _ _ h => h) (Or.inl ⟨by rfl, ?_⟩) hHeld ?_
                  rotate_left
                  · intro wS hS; go_simp; (try with_reducible rfl)
                  simp only [Act.put, List.getElem_toArray, List.getElem_cons_succ, List.getElem_cons_zero, List.setIfInBounds_toArray, List.set_cons_succ, List.set_cons_zero]
                  refine wpAnyL_take (i := 15) (f0 := 39) (v := ?_) rfl (by decide +kernel) (by decide +kernel) (by decide +kernel) (by decide +kernel) (by decide +kernel) (fun _ _ _ h => h) (Or.inl ⟨by rfl, ?_⟩) hHeld ?_
                  rotate_left
                  · intro wS hS; go_simp; (try with_reducible rfl)
                  simp only [Act.put, List.getElem_toArray, List.getElem_cons_succ, List.getElem_cons_zero, List.setIfInBounds_toArray, List.set_cons_succ, List.set_cons_zero]
                  refine wpAnyL_take (i := 16) (f0 := 39) (v := ?_) rfl (by decide +kernel) (by decide +kernel) (by decide +kernel) (by decide +kernel) (by decide +kernel) (fun _ _ _ h => h) (Or.inl ⟨by rfl, ?_⟩) hHeld ?_
                  rotate_left
                  · intro wS hS; go_simp; (try with_reducible rfl)
                  simp only [Act.put, List.getElem_toArray, List.getElem_cons_succ, List.getElem_cons_zero, List.setIfInBounds_toArray, List.set_cons_succ, List.set_cons_zero]
                  refine wpAnyL_one (i := 13) (by decide +kernel) (by rfl) (fun K hK => ?_)
                  rw [if_pos (by rfl)]
                  go_simp
                  refine (Code.under_of l (some ⟨b, off, none⟩) n c HL.out HW.out (by omega) y.id x.id u2 hHeld.its false HU.out).mono ?_
                  rintro e u11 ⟨rfl, hx11⟩
                  have hHeld11 : CS w.heap.size (some ⟨b, off, none⟩) n c l A7 L u11 := hHeld.below hx11
                  have hbd11 := bnext hbd hx11
                  refine hK.out _ _ (Or.inr hHeld11) ?_
                  clear hK K hHeld hbd hx11
                  try simp only [Act.put, List.getElem_toArray, List.getElem_cons_succ, List.getElem_cons_zero, List.setIfInBounds_toArray, List.set_cons_succ, List.set_cons_zero]
                  refine wpAnyL_take (i := 17) (f0 := 39) (v := ?_) rfl (by decide +kernel) (by decide +kernel) (by decide +kernel) (by decide +kernel) (by decide +kernel) (fun _ _ _ h => h) (Or.inl ⟨by rfl, ?_⟩) hHeld11 ?_
                  rotate_left
                  · intro wS hS; go_simp; (try with_reducible rfl)
                  simp only [Act.put, List.getElem_toArray, List.getElem_cons_succ, List.getElem_cons_zero, List.setIfInBounds_toArray, List.set_cons_succ, List.set_cons_zero]
                  refine wpAnyL_take (i := 18) (f0 := 39) (v := undef) rfl (by decide +kernel) (by decide +kernel) (by decide +kernel) (by decide +kernel) (by decide +kernel) (fun _ _ _ h => h) (Or.inr ⟨by rfl, rfl⟩) hHeld11 ?_
                  simp only [Act.put, List.getElem_toArray, List.getElem_cons_succ, List.getElem_cons_zero, List.setIfInBounds_toArray, List.set_cons_succ, List.set_cons_zero]
                  refine wpAnyL_take (i := 19) (f0 := 39) (v := undef) rfl (by decide +kernel) (by decide +kernel) (by decide +kernel) (by decide +kernel) (by decide +kernel) (fun _ _ _ h => h) (Or.inr ⟨by rfl, rfl⟩) hHeld11 ?_
                  simp only [Act.put, List.getElem_toArray, List.getElem_cons_succ, List.getElem_cons_zero, List.setIfInBounds_toArray, List.set_cons_succ, List.set_cons_zero]
                  refine wpAnyL_take (i := 20) (f0 := 39) (v := undef) rfl (by decide +kernel) (by decide +kernel) (by decide +kernel) (by decide +kernel) (by decide +kernel) (fun _ _ _ h => h) (Or.inr ⟨by rfl, rfl⟩) hHeld11 ?_
                  simp only [Act.put, List.getElem_toArray, List.getElem_cons_succ, List.getElem_cons_zero, List.setIfInBounds_toArray, List.set_cons_succ, List.set_cons_zero]
                  refine wpAnyL_take (i := 21) (f0 := 39) (v := undef) rfl (by decide +kernel) (by decide +kernel) (by decide +kernel) (by decide +kernel) (by decide +kernel) (fun _ _ _ h => h) (Or.inr ⟨by rfl, rfl⟩) hHeld11 ?_
                  simp only [Act.put, List.getElem_toArray, List.getElem_cons_succ, List.getElem_cons_zero, List.setIfInBounds_toArray, List.set_cons_succ, List.set_cons_zero]
                  refine wpAnyL_take (i := 22) (f0 := 39) (v := undef) rfl (by decide +kernel) (by decide +kernel) (by decide +kernel) (by decide +kernel) (by decide +kernel) (fun _ _ _ h => h) (Or.inr ⟨by rfl, rfl⟩) hHeld11 ?_
                  simp only [Act.put, List.getElem_toArray, List.getElem_cons_succ, List.getElem_cons_zero, List.setIfInBounds_toArray, List.set_cons_succ, List.set_cons_zero]
                  refine wpAnyL_take (i := 23) (f0 := 39) (v := undef) rfl (by decide +kernel) (by decide +kernel) (by decide +kernel) (by decide +kernel) (by decide +kernel) (fun _ _ _ h => h) (Or.inr ⟨by rfl, rfl⟩) hHeld11 ?_
                  simp only [Act.put, List.getElem_toArray, List.getElem_cons_succ, List.getElem_cons_zero, List.setIfInBounds_toArray, List.set_cons_succ, List.set_cons_zero]
                  refine wpAnyL_take (i := 24) (f0 := 39) (v := ?_) rfl (by decide +kernel) (by decide +kernel) (by decide +kernel) (by decide +kernel) (by decide +kernel) (fun _ _ _ h => h) (Or.inl ⟨by rfl, ?_⟩) hHeld11 ?_
                  rotate_left
                  · intro wS hS; go_simp; (try with_reducible rfl)
                  simp only [Act.put, List.getElem_toArray, List.getElem_cons_succ, List.getElem_cons_zero, List.setIfInBounds_toArray, List.set_cons_succ, List.set_cons_zero]
                  refine wpAnyL_take (i := 25) (f0 := 39) (v := ?_) rfl (by decide +kernel) (by decide +kernel) (by decide +kernel) (by decide +kernel) (by decide +kernel) (fun _ _ _ h => h) (Or.inl ⟨by rfl, ?_⟩) hHeld11 ?_
                  rotate_left
                  · intro wS hS; go_simp; (try with_reducible rfl)
                  simp only [Act.put, List.getElem_toArray, List.getElem_cons_succ, List.getElem_cons_zero, List.setIfInBounds_toArray, List.set_cons_succ, List.set_cons_zero]
                  refine wpAnyL_take (i := 26) (f0 := 39) (v := ?_) rfl (by decide +kernel) (by decide +kernel) (by decide +kernel) (by decide +kernel) (by decide +kernel) (fun _ _ _ h => h) (Or.inl ⟨by rfl, ?_⟩) hHeld11 ?_
                  rotate_left
                  · intro wS hS; go_simp; (try with_reducible rfl)
                  simp only [Act.put, List.getElem_toArray, List.getElem_cons_succ, List.getElem_cons_zero, List.setIfInBounds_toArray, List.set_cons_succ, List.set_cons_zero]
                  refine wpAnyL_take (i := 27) (f0 := 39) (v := ?_) rfl (by decide +kernel) (by decide +kernel) (by decide +kernel) (by decide +kernel) (by decide +kernel) (fun _ _ _ h => h) (Or.inl ⟨by rfl, ?_⟩) hHeld11 ?_
                  rotate_left
                  · intro wS hS; have c9 := iCells0 hS.row; go_simp; (try with_reducible rfl)
                  simp only [Act.put, List.getElem_toArray, List.getElem_cons_succ, List.getElem_cons_zero, List.setIfInBounds_toArray, List.set_cons_succ, List.set_cons_zero]
                  refine wpAnyL_take (i := 28) (f0 := 39) (v := ?_) rfl (by decide +kernel) (by decide +kernel) (by decide +kernel) (by decide +kernel) (by decide +kernel) (fun _ _ _ h => h) (Or.inl ⟨by rfl, ?_⟩) hHeld11 ?_
                  rotate_left
                  · intro wS hS; go_simp; (try with_reducible rfl)
                  simp only [Act.put, List.getElem_toArray, List.getElem_cons_succ, List.getElem_cons_zero, List.setIfInBounds_toArray, List.set_cons_succ, List.set_cons_zero]
                  refine wpAnyL_take (i := 29) (f0 := 39) (v := ?_) rfl (by decide +kernel) (by decide +kernel) (by decide +kernel) (by decide +kernel) (by decide +kernel) (fun _ _ _ h => h) (Or.inl ⟨by rfl, ?_⟩) hHeld11 ?_
                  rotate_left
                  · intro wS hS; have c9 := iCells0 hS.row; go_simp; (try with_reducible rfl)
                  simp only [Act.put, List.getElem_toArray, List.getElem_cons_succ, List.getElem_cons_zero, List.setIfInBounds_toArray, List.set_cons_succ, List.set_cons_zero]
                  refine wpAnyL_take (i := 30) (f0 := 39) (v := ?_) rfl (by decide +kernel) (by decide +kernel) (by decide +kernel) (by decide +kernel) (by decide +kernel) (fun _ _ _ h => h) (Or.inl ⟨by rfl, ?_⟩) hHeld11 ?_
                  rotate_left
                  · intro wS hS; go_simp; (try with_reducible rfl)
                  simp only [Act.put, List.getElem_toArray, List.getElem_cons_succ, List.getElem_cons_zero, List.setIfInBounds_toArray, List.set_cons_succ, List.set_cons_zero]
                  refine wpAnyL_take (i := 31) (f0 := 39) (v := ?_) rfl (by decide +kernel) (by decide +kernel) (by decide +kernel) (by decide +kernel) (by decide +kernel) (fun _ _ _ h => h) (Or.inl ⟨by rfl, ?_⟩) hHeld11 ?_
                  rotate_left
                  · intro wS hS; go_simp; (try with_reducible rfl)
                  simp only [Act.put, List.getElem_toArray, List.getElem_cons_succ, List.getElem_cons_zero, List.setIfInBounds_toArray, List.set_cons_succ, List.set_cons_zero]
                  refine wpAnyL_take (i := 32) (f0 := 39) (v := ?_) rfl (by decide +kernel) (by decide +kernel) (by decide +kernel) (by decide +kernel) (by decide +kernel) (fun _ _ _ h => h) (Or.inl ⟨by rfl, ?_⟩) hHeld11 ?_
                  rotate_left
                  · intro wS hS; go_simp; (try with_reducible rfl)
                  simp only [Act.put, List.getElem_toArray, List.getElem_cons_succ, List.getElem_cons_zero, List.setIfInBounds_toArray, List.set_cons_succ, List.set_cons_zero]
                  refine wpAnyL_take (i := 33) (f0 := 39) (v := ?_) rfl (by decide +kernel) (by decide +kernel) (by decide +kernel) (by decide +kernel) (by decide +kernel) (fun _ _ _ h => h) (Or.inl ⟨by rfl, ?_⟩) hHeld11 ?_
                  rotate_left
                  · intro wS hS; obtain ⟨hbl, p0, p1, p2, p3, p4, p5, p6⟩ := hS.its.cells hkl y HY.out; go_simp; (try with_reducible rfl)
                  simp only [Act.put, List.getElem_toArray, List.getElem_cons_succ, List.getElem_cons_zero, List.setIfInBounds_toArray, List.set_cons_succ, List.set_cons_zero]
                  refine wpAnyL_one (i := 34) (by decide +kernel) (by rfl) (fun K hK => ?_)
                  rw [if_pos (by rfl)]
                  go_simp
                  refine (Code.under_of l (some ⟨b, off, none⟩) n c HL.out HW.out (by omega) y.id ⟨#[]⟩ u11 hHeld11.its true HN.out).mono ?_
                  rintro e u12 ⟨rfl, hx12⟩
                  have hHeld12 : CS w.heap.size (some ⟨b, off, none⟩) n c l A7 L u12 := hHeld11.below hx12
                  have hbd12 := bnext hbd11 hx12
                  refine hK.out _ _ (Or.inr hHeld12) ?_
                  clear hK K hHeld11 hbd11 hx12
                  try simp only [Act.put, List.getElem_toArray, List.getElem_cons_succ, List.getElem_cons_zero, List.setIfInBounds_toArray, List.set_cons_succ, List.set_cons_zero]
                  refine wpAnyL_take (i := 35) (f0 := 39) (v := ?_) rfl (by decide +kernel) (by decide +kernel) (by decide +kernel) (by decide +kernel) (by decide +kernel) (fun _ _ _ h => h) (Or.inl ⟨by rfl, ?_⟩) hHeld12 ?_
                  rotate_left
                  · intro wS hS; go_simp; (try with_reducible rfl)
                  simp only [Act.put, List.getElem_toArray, List.getElem_cons_succ, List.getElem_cons_zero, List.setIfInBounds_toArray, List.set_cons_succ, List.set_cons_zero]
                  refine wpAnyL_take (i := 36) (f0 := 39) (v := ?_) rfl (by decide +kernel) (by decide +kernel) (by decide +kernel) (by decide +kernel) (by decide +kernel) (fun _ _ _ h => h) (Or.inl ⟨by rfl, ?_⟩) hHeld12 ?_
                  rotate_left
                  · intro wS hS; go_simp; (try with_reducible rfl)
                  simp only [Act.put, List.getElem_toArray, List.getElem_cons_succ, List.getElem_cons_zero, List.setIfInBounds_toArray, List.set_cons_succ, List.set_cons_zero]
                  refine wpAnyL_done (by decide +kernel) ?_ _
                  refine NoPanic.normal ?_
                  have hc := iCells0 hHeld12.row
                  obtain ⟨_, y0, y1, y2, y3, y4, y5, y6⟩ := hHeld12.its.cells hkl y HY.out
                  clear d1
                  go_upto_region 17 with (fail)
                  clear hc y0 y1 y2 y3 y4 y5 y6
                  refine wp_region_noPanic ?_
                  refine wp_region_L (CS w.heap.size (some ⟨b, off, none⟩) n c l A7 L) 14 hmx ?_
                  have hdr := (Below.refl u12.heap.size u12).drew
                  have hHeld13 : CS w.heap.size (some ⟨b, off, none⟩) n c l A7 L u12.drew := hHeld12.below hdr
                  have hbd13 := bnext hbd12 hdr
                  clear hdr hHeld12 hbd12
                  generalize u12.drew = u13 at *
                  have hpe : y.parent.toList.isEmpty = decide (y.parent = Dg.nil8) := (emp_iff _).symm
                  by_cases hp : y.parent = Dg.nil8
                  · have hpb : y.parent.toList.isEmpty = true := hpe.trans (decide_eq_true hp)
                    clear hp hpe
                    refine wpAnyL_take (i := 0) (f0 := 16) (v := ?_) rfl (by decide +kernel) (by decide +kernel) (by decide +kernel) (by decide +kernel) (by decide +kernel) (fun _ _ _ h => h) (Or.inl ⟨by rfl, ?_⟩) hHeld13 ?_
                    rotate_left
                    · intro wS hS; go_simp; (try with_reducible rfl)
                    simp only [Act.put, List.getElem_toArray, List.getElem_cons_succ, List.getElem_cons_zero, List.setIfInBounds_toArray, List.set_cons_succ, List.set_cons_zero]
                    refine wpAnyL_take (i := 1) (f0 := 16) (v := ?_) rfl (by decide +kernel) (by decide +kernel) (by decide +kernel) (by decide +kernel) (by decide +kernel) (fun _ _ _ h => h) (Or.inl ⟨by rfl, ?_⟩) hHeld13 ?_
                    rotate_left
                    · intro wS hS; go_simp; (try with_reducible rfl)
                    simp only [Act.put, List.getElem_toArray, List.getElem_cons_succ, List.getElem_cons_zero, List.setIfInBounds_toArray, List.set_cons_succ, List.set_cons_zero]
                    refine wpAnyL_take (i := 2) (f0 := 16) (v := ?_) rfl (by decide +kernel) (by decide +kernel) (by decide +kernel) (by decide +kernel) (by decide +kernel) (fun _ _ _ h => h) (Or.inl ⟨by rfl, ?_⟩) hHeld13 ?_
                    rotate_left
                    · intro wS hS; go_simp; (try with_reducible rfl)
                    simp only [Act.put, List.getElem_toArray, List.getElem_cons_succ, List.getElem_cons_zero, List.setIfInBounds_toArray, List.set_cons_succ, List.set_cons_zero]
                    refine wpAnyL_take (i := 3) (f0 := 16) (v := undef) rfl (by decide +kernel) (by decide +kernel) (by decide +kernel) (by decide +kernel) (by decide +kernel) (fun _ _ _ h => h) (Or.inr ⟨by rfl, rfl⟩) hHeld13 ?_
                    simp only [Act.put, List.getElem_toArray, List.getElem_cons_succ, List.getElem_cons_zero, List.setIfInBounds_toArray, List.set_cons_succ, List.set_cons_zero]
                    refine wpAnyL_take (i := 4) (f0 := 16) (v := undef) rfl (by decide +kernel) (by decide +kernel) (by decide +kernel) (by decide +kernel) (by decide +kernel) (fun _ _ _ h => h) (Or.inr ⟨by rfl, rfl⟩) hHeld13 ?_
                    simp only [Act.put, List.getElem_toArray, List.getElem_cons_succ, List.getElem_cons_zero, List.setIfInBounds_toArray, List.set_cons_succ, List.set_cons_zero]
                    refine wpAnyL_take (i := 5) (f0 := 16) (v := undef) rfl (by decide +kernel) (by decide +kernel) (by decide +kernel) (by decide +kernel) (by decide +kernel) (fun _ _ _ h => h) (Or.inr ⟨by rfl, rfl⟩) hHeld13 ?_
                    simp only [Act.put, List.getElem_toArray, List.getElem_cons_succ, List.getElem_cons_zero, List.setIfInBounds_toArray, List.set_cons_succ, List.set_cons_zero]
                    refine wpAnyL_take (i := 6) (f0 := 16) (v := undef) rfl (by decide +kernel) (by decide +kernel) (by decide +kernel) (by decide +kernel) (by decide +kernel) (fun _ _ _ h => h) (Or.inr ⟨by rfl, rfl⟩) hHeld13 ?_
                    simp only [Act.put, List.getElem_toArray, List.getElem_cons_succ, List.getElem_cons_zero, List.setIfInBounds_toArray, List.set_cons_succ, List.set_cons_zero]
                    refine wpAnyL_take (i := 7) (f0 := 16) (v := undef) rfl (by decide +kernel) (by decide +kernel) (by decide +kernel) (by decide +kernel) (by decide +kernel) (fun _ _ _ h => h) (Or.inr ⟨by rfl, rfl⟩) hHeld13 ?_
                    simp only [Act.put, List.getElem_toArray, List.getElem_cons_succ, List.getElem_cons_zero, List.setIfInBounds_toArray, List.set_cons_succ, List.set_cons_zero]
                    refine wpAnyL_take (i := 8) (f0 := 16) (v := undef) rfl (by decide +kernel) (by decide +kernel) (by decide +kernel) (by decide +kernel) (by decide +kernel) (fun _ _ _ h => h) (Or.inr ⟨by rfl, rfl⟩) hHeld13 ?_
                    simp only [Act.put, List.getElem_toArray, List.getElem_cons_succ, List.getElem_cons_zero, List.setIfInBounds_toArray, List.set_cons_succ, List.set_cons_zero]
                    refine wpAnyL_take (i := 9) (f0 := 16) (v := undef) rfl (by decide +kernel) (by decide +kernel) (by decide +kernel) (by decide +kernel) (by decide +kernel) (fun _ _ _ h => h) (Or.inr ⟨by rfl, rfl⟩) hHeld13 ?_
                    simp only [Act.put, List.getElem_toArray, List.getElem_cons_succ, List.getElem_cons_zero, List.setIfInBounds_toArray, List.set_cons_succ, List.set_cons_zero]
                    refine wpAnyL_take (i := 10) (f0 := 16) (v := undef) rfl (by decide +kernel) (by decide +kernel) (by decide +kernel) (by decide +kernel) (by decide +kernel) (fun _ _ _ h => h) (Or.inr ⟨by rfl, rfl⟩) hHeld13 ?_
                    simp only [Act.put, List.getElem_toArray, List.getElem_cons_succ, List.getElem_cons_zero, List.setIfInBounds_toArray, List.set_cons_succ, List.set_cons_zero]
                    refine wpAnyL_take (i := 11) (f0 := 16) (v := undef) rfl (by decide +kernel) (by decide +kernel) (by decide +kernel) (by decide +kernel) (by decide +kernel) (fun _ _ _ h => h) (Or.inr ⟨by rfl, rfl⟩) hHeld13 ?_
                    simp only [Act.put, List.getElem_toArray, List.getElem_cons_succ, List.getElem_cons_zero, List.setIfInBounds_toArray, List.set_cons_succ, List.set_cons_zero]
                    refine wpAnyL_take (i := 12) (f0 := 16) (v := undef) rfl (by decide +kernel) (by decide +kernel) (by decide +kernel) (by decide +kernel) (by decide +kernel) (fun _ _ _ h => h) (Or.inr ⟨by rfl, rfl⟩) hHeld13 ?_
                    simp only [Act.put, List.getElem_toArray, List.getElem_cons_succ, List.getElem_cons_zero, List.setIfInBounds_toArray, List.set_cons_succ, List.set_cons_zero]
                    refine wpAnyL_take (i := 13) (f0 := 16) (v := ?_) rfl (by decide +kernel) (by decide +kernel) (by decide +kernel) (by decide +kernel) (by decide +kernel) (fun _ _ _ h => h) (Or.inl ⟨by rfl, ?_⟩) hHeld13 ?_
                    rotate_left
                    · intro wS hS; go_simp; (try with_reducible rfl)
                    simp only [Act.put, List.getElem_toArray, List.getElem_cons_succ, List.getElem_cons_zero, List.setIfInBounds_toArray, List.set_cons_succ, List.set_cons_zero]
                    refine wpAnyL_done (by decide +kernel) ?_ _
                    refine NoPanic.normal ?_
                    go_wp2
                    go_roundw
                    case rel => exact ⟨k + 1, by omega, by go_num, hHeld13, hbd13⟩
                    case measure => simp [intOf]; omega
                  · have hpb : y.parent.toList.isEmpty = false := hpe.trans (decide_eq_false hp)
                    have HPP := hide (HP.out hp)
                    clear hp hpe
                    refine wpAnyL_take (i := 0) (f0 := 16) (v := ?_) rfl (by decide +kernel) (by decide +kernel) (by decide +kernel) (by decide +kernel) (by decide +kernel) (fun _ _ _ h => h) (Or.inl ⟨by rfl, ?_⟩) hHeld13 ?_
                    rotate_left
                    · intro wS hS; go_simp; (try with_reducible rfl)
                    simp only [Act.put, List.getElem_toArray, List.getElem_cons_succ, List.getElem_cons_zero, List.setIfInBounds_toArray, List.set_cons_succ, List.set_cons_zero]
                    refine wpAnyL_take (i := 1) (f0 := 16) (v := ?_) rfl (by decide +kernel) (by decide +kernel) (by decide +kernel) (by decide +kernel) (by decide +kernel) (fun _ _ _ h => h) (Or.inl ⟨by rfl, ?_⟩) hHeld13 ?_
                    rotate_left
                    · intro wS hS; go_simp; (try with_reducible rfl)
                    simp only [Act.put, List.getElem_toArray, List.getElem_cons_succ, List.getElem_cons_zero, List.setIfInBounds_toArray, List.set_cons_succ, List.set_cons_zero]
                    refine wpAnyL_take (i := 2) (f0 := 16) (v := ?_) rfl (by decide +kernel) (by decide +kernel) (by decide +kernel) (by decide +kernel) (by decide +kernel) (fun _ _ _ h => h) (Or.inl ⟨by rfl, ?_⟩) hHeld13 ?_
                    rotate_left
                    · intro wS hS; go_simp; (try with_reducible rfl)
                    simp only [Act.put, List.getElem_toArray, List.getElem_cons_succ, List.getElem_cons_zero, List.setIfInBounds_toArray, List.set_cons_succ, List.set_cons_zero]
                    refine wpAnyL_take (i := 3) (f0 := 16) (v := ?_) rfl (by decide +kernel) (by decide +kernel) (by decide +kernel) (by decide +kernel) (by decide +kernel) (fun _ _ _ h => h) (Or.inl ⟨by rfl, ?_⟩) hHeld13 ?_
                    rotate_left
                    · intro wS hS; have c9 := iCells0 hS.row; go_simp; (try with_reducible rfl)
                    simp only [Act.put, List.getElem_toArray, List.getElem_cons_succ, List.getElem_cons_zero, List.setIfInBounds_toArray, List.set_cons_succ, List.set_cons_zero]
                    refine wpAnyL_take (i := 4) (f0 := 16) (v := ?_) rfl (by decide +kernel) (by decide +kernel) (by decide +kernel) (by decide +kernel) (by decide +kernel) (fun _ _ _ h => h) (Or.inl ⟨by rfl, ?_⟩) hHeld13 ?_
                    rotate_left
                    · intro wS hS; go_simp; (try with_reducible rfl)
                    simp only [Act.put, List.getElem_toArray, List.getElem_cons_succ, List.getElem_cons_zero, List.setIfInBounds_toArray, List.set_cons_succ, List.set_cons_zero]
                    refine wpAnyL_take (i := 5) (f0 := 16) (v := ?_) rfl (by decide +kernel) (by decide +kernel) (by decide +kernel) (by decide +kernel) (by decide +kernel) (fun _ _ _ h => h) (Or.inl ⟨by rfl, ?_⟩) hHeld13 ?_
                    rotate_left
                    · intro wS hS; have c9 := iCells0 hS.row; go_simp; (try with_reducible rfl)
                    simp only [Act.put, List.getElem_toArray, List.getElem_cons_succ, List.getElem_cons_zero, List.setIfInBounds_toArray, List.set_cons_succ, List.set_cons_zero]
                    refine wpAnyL_take (i := 6) (f0 := 16) (v := ?_) rfl (by decide +kernel) (by decide +kernel) (by decide +kernel) (by decide +kernel) (by decide +kernel) (fun _ _ _ h => h) (Or.inl ⟨by rfl, ?_⟩) hHeld13 ?_
                    rotate_left
                    · intro wS hS; go_simp; (try with_reducible rfl)
                    simp only [Act.put, List.getElem_toArray, List.getElem_cons_succ, List.getElem_cons_zero, List.setIfInBounds_toArray, List.set_cons_succ, List.set_cons_zero]
                    refine wpAnyL_take (i := 7) (f0 := 16) (v := ?_) rfl (by decide +kernel) (by decide +kernel) (by decide +kernel) (by decide +kernel) (by decide +kernel) (fun _ _ _ h => h) (Or.inl ⟨by rfl, ?_⟩) hHeld13 ?_
                    rotate_left
                    · intro wS hS; go_simp; (try with_reducible rfl)
                    simp only [Act.put, List.getElem_toArray, List.getElem_cons_succ, List.getElem_cons_zero, List.setIfInBounds_toArray, List.set_cons_succ, List.set_cons_zero]
                    refine wpAnyL_take (i := 8) (f0 := 16) (v := ?_) rfl (by decide +kernel) (by decide +kernel) (by decide +kernel) (by decide +kernel) (by decide +kernel) (fun _ _ _ h => h) (Or.inl ⟨by rfl, ?_⟩) hHeld13 ?_
                    rotate_left
                    · intro wS hS; go_simp; (try with_reducible rfl)
                    simp only [Act.put, List.getElem_toArray, List.getElem_cons_succ, List.getElem_cons_zero, List.setIfInBounds_toArray, List.set_cons_succ, List.set_cons_zero]
                    refine wpAnyL_take (i := 9) (f0 := 16) (v := ?_) rfl (by decide +kernel) (by decide +kernel) (by decide +kernel) (by decide +kernel) (by decide +kernel) (fun _ _ _ h => h) (Or.inl ⟨by rfl, ?_⟩) hHeld13 ?_
                    rotate_left
                    · intro wS hS; obtain ⟨hbl, p0, p1, p2, p3, p4, p5, p6⟩ := hS.its.cells hkl y HY.out; go_simp; (try with_reducible rfl)
                    simp only [Act.put, List.getElem_toArray, List.getElem_cons_succ, List.getElem_cons_zero, List.setIfInBounds_toArray, List.set_cons_succ, List.set_cons_zero]
                    refine wpAnyL_take (i := 10) (f0 := 16) (v := ?_) rfl (by decide +kernel) (by decide +kernel) (by decide +kernel) (by decide +kernel) (by decide +kernel) (fun _ _ _ h => h) (Or.inl ⟨by rfl, ?_⟩) hHeld13 ?_
                    rotate_left
                    · intro wS hS; go_simp; (try with_reducible rfl)
                    simp only [Act.put, List.getElem_toArray, List.getElem_cons_succ, List.getElem_cons_zero, List.setIfInBounds_toArray, List.set_cons_succ, List.set_cons_zero]
                    refine wpAnyL_one (i := 11) (by decide +kernel) (by rfl) (fun K hK => ?_)
                    rw [if_pos (by rfl)]
                    go_simp
                    refine (Code.under_of l (some ⟨b, off, none⟩) n c HL.out HW.out (by omega) y.id y.parent u13 hHeld13.its true HPP.out).mono ?_
                    rintro e u14 ⟨rfl, hx14⟩
                    have hHeld14 : CS w.heap.size (some ⟨b, off, none⟩) n c l A7 L u14 := hHeld13.below hx14
                    have hbd14 := bnext hbd13 hx14
                    refine hK.out _ _ (Or.inr hHeld14) ?_
                    clear hK K hHeld13 hbd13 hx14
                    try simp only [Act.put, List.getElem_toArray, List.getElem_cons_succ, List.getElem_cons_zero, List.setIfInBounds_toArray, List.set_cons_succ, List.set_cons_zero]
                    refine wpAnyL_take (i := 12) (f0 := 16) (v := ?_) rfl (by decide +kernel) (by decide +kernel) (by decide +kernel) (by decide +kernel) (by decide +kernel) (fun _ _ _ h => h) (Or.inl ⟨by rfl, ?_⟩) hHeld14 ?_
                    rotate_left
                    · intro wS hS; go_simp; (try with_reducible rfl)
                    simp only [Act.put, List.getElem_toArray, List.getElem_cons_succ, List.getElem_cons_zero, List.setIfInBounds_toArray, List.set_cons_succ, List.set_cons_zero]
                    refine wpAnyL_take (i := 13) (f0 := 16) (v := ?_) rfl (by decide +kernel) (by decide +kernel) (by decide +kernel) (by decide +kernel) (by decide +kernel) (fun _ _ _ h => h) (Or.inl ⟨by rfl, ?_⟩) hHeld14 ?_
                    rotate_left
                    · intro wS hS; go_simp; (try with_reducible rfl)
                    simp only [Act.put, List.getElem_toArray, List.getElem_cons_succ, List.getElem_cons_zero, List.setIfInBounds_toArray, List.set_cons_succ, List.set_cons_zero]
                    refine wpAnyL_done (by decide +kernel) ?_ _
                    refine NoPanic.normal ?_
                    go_wp2
                    go_roundw
                    case rel => exact ⟨k + 1, by omega, by go_num, hHeld14, hbd14⟩
                    case measure => simp [intOf]; omega
              · obtain rfl : n = k := by omega
                have hc := iCells0 hS.row
                go_wp2
                go_ret
                exact ⟨rfl, hb⟩
end Go.Proofs.YtpldhempbdionaaGreatDoor

