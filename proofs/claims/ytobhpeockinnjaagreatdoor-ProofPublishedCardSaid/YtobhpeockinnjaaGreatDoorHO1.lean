/- Walks and laws of this seat, several texts in one: P30, P32, POT, POP. No conditions but those that each theorem states. -/
import Derived.Test.YtobhpeockinnjaaGreatDoorHS1
import Derived.SizedLaws
/- The days that a reader knows, in plain Lean; the law ProofOrders. No conditions but those that each theorem states. -/
namespace Go.Proofs.YtobhpeockinnjaaGreatDoor
open Go Go.RowKit Go.Sort Go.Maps
def isIntK : Lit → Bool
  | .int .i64 _ => true
  | _ => false
theorem isIntK_out {k : Lit} (h : isIntK k = true) : ∃ x, k = .int .i64 x := by
  unfold isIntK at h
  split at h
  · exact ⟨_, rfl⟩
  · cases h
theorem daysD_tidy : ∀ l, Tidy (daysD l)
  | [] => tidy_empty
  | (_, _, _) :: l => (daysD_tidy l).put (by trivial) _
theorem any_filter_le {α : Type} {f g : α → Bool} : ∀ l : List α, l.any f = false → (l.filter g).any f = false
  | [], _ => rfl
  | y :: r, h => by
    rw [List.any_cons, Bool.or_eq_false_iff] at h
    rw [List.filter_cons]
    split
    · rw [List.any_cons, h.1, any_filter_le r h.2]; rfl
    · exact any_filter_le r h.2
theorem daysD_ints : ∀ l, ∃ es, daysD l = .map es ∧ es.any (fun p => !isIntK p.1) = false
  | [] => ⟨[], rfl, rfl⟩
  | (d, c, r) :: l => by
    obtain ⟨es, h, hf⟩ := daysD_ints l
    refine ⟨DataW.insert (.int .i64 d, .agg [.lit (.int .i64 c), .lit (.string r.data.toList)]) (es.filter fun p => !p.1.sameKey (.int .i64 d)), ?_, ?_⟩
    · rw [daysD, h]; rfl
    · rw [any_insert, any_filter_le es hf]; rfl
theorem daysD_form (l : List Dy) : ∃ es : List (Lit × DataW Unit), daysD l = .map es ∧ es.Pairwise (fun p q => p.1 ≠ q.1) ∧ ∀ p ∈ es, ∃ x, p.1 = .int .i64 x := by
  obtain ⟨es, h, hf⟩ := daysD_ints l
  obtain ⟨es', h', hp⟩ := daysD_tidy l
  obtain rfl : es = es' := by
    rw [h] at h'
    injection h'
  refine ⟨es, h, hp, fun p hm => isIntK_out ?_⟩
  cases hi : isIntK p.1 with
  | true => rfl
  | false => rw [List.any_eq_false] at hf; exact absurd (hf p hm) (by rw [hi]; decide)
theorem intKeys_mem (l : List Dy) (x : Int) : x ∈ intKeys (daysD l) ↔ (foundD l x).isSome = true := by
  rw [← daysD_has x l]
  obtain ⟨es, h, _, hk⟩ := daysD_form l
  rw [h, has_eq, List.any_eq_true]
  show x ∈ es.map (fun p => Go.intOf p.1) ↔ _
  rw [List.mem_map]
  constructor
  · rintro ⟨p, hp', rfl⟩
    obtain ⟨a, ha⟩ := hk p hp'
    exact ⟨p, hp', by rw [ha]; simp [Lit.sameKey, Go.intOf]⟩
  · rintro ⟨p, hp', hs⟩
    obtain ⟨a, ha⟩ := hk p hp'
    rw [ha] at hs
    exact ⟨p, hp', by rw [ha]; simpa [Lit.sameKey, Go.intOf] using hs⟩
theorem intKeys_nodup (l : List Dy) : (intKeys (daysD l)).Nodup := by
  obtain ⟨es, h, hp, hk⟩ := daysD_form l
  rw [h]
  show (es.map fun p => Go.intOf p.1).Nodup
  refine List.pairwise_map.2 (hp.imp_of_mem fun {p q} hp' hq' hne e => hne ?_)
  obtain ⟨a, ha⟩ := hk p hp'
  obtain ⟨b, hb⟩ := hk q hq'
  rw [ha, hb] at e ⊢
  exact congrArg _ e
theorem daysS_mem (l : List Dy) (x : Int) : x ∈ daysS l ↔ (foundD l x).isSome = true := by
  unfold daysS
  rw [List.mem_mergeSort, intKeys_mem]
theorem daysS_len (l : List Dy) : (daysS l).length = Maps.size (daysD l) := by
  unfold daysS
  rw [List.length_mergeSort]
  obtain ⟨es, h, _, _⟩ := daysD_form l
  rw [h]
  show (es.map fun p => Go.intOf p.1).length = es.length
  rw [List.length_map]
theorem daysS_same {l m : List Dy} (h : ∀ k, foundD l k = foundD m k) : daysS l = daysS m := by
  unfold daysS
  refine mergeSort_of_perm_i ((List.perm_ext_iff_of_nodup (intKeys_nodup l) (intKeys_nodup m)).2 fun x => ?_)
  rw [intKeys_mem, intKeys_mem, h]
theorem daysS_up (l : List Dy) {i : Nat} (hi : i + 1 < (daysS l).length) : (daysS l)[i] < (daysS l)[i + 1] := by
  have tr : ∀ a b c : Int, (fun x y : Int => decide (x ≤ y)) a b = true → (fun x y : Int => decide (x ≤ y)) b c = true → (fun x y : Int => decide (x ≤ y)) a c = true := fun a b c h1 h2 => by simp only [decide_eq_true_eq] at *; exact Int.le_trans h1 h2
  have tt9 : ∀ a b : Int, ((fun x y : Int => decide (x ≤ y)) a b || (fun x y : Int => decide (x ≤ y)) b a) = true := fun a b => by simp only [Bool.or_eq_true, decide_eq_true_eq]; exact Int.le_total a b
  have h1 := List.pairwise_iff_getElem.1 (List.pairwise_mergeSort tr tt9 (intKeys (daysD l))) i (i + 1) (by unfold daysS at hi; omega) (by unfold daysS at hi; omega) (by omega)
  have h2 : (daysS l).Nodup := (List.mergeSort_perm (intKeys (daysD l)) (fun x y => decide (x ≤ y))).nodup_iff.2 (intKeys_nodup l)
  have h3 := List.pairwise_iff_getElem.1 h2 i (i + 1) (by omega) (by omega) (by omega)
  have h4 : (daysS l)[i] ≤ (daysS l)[i + 1] := of_decide_eq_true h1
  exact Int.lt_iff_le_and_ne.2 ⟨h4, h3⟩
/-- Whether what a reader is told bears the seal of a key. -/
def vT (K : ByteArray) (x : Td) : Bool := verifyB K (msgB x.day x.count x.root) 0 (Dg.sigB (secB x.wrong) 0 (msgB x.day x.count x.root)) []
def accT (K : ByteArray) (x : Td) : Prop := ¬ learnBad x.day x.count x.root ∧ vT K x = true
theorem learn_inv {l l' : List Dy} {V : Bool} {d c E : Int} {r : ByteArray} (h : learnE l V d c r = (E, l')) (hE : E ≠ 23) (P : Int → Int × ByteArray → Prop) (hP : ∀ k v, foundD l k = some v ↔ P k v) :
    ∀ k v, foundD l' k = some v ↔ P k v ∨ ((¬ learnBad d c r ∧ V = true) ∧ d = k ∧ v = (c, r)) := by
  intro k v
  by_cases hb : learnBad d c r
  · rw [learnE_bad hb] at h
    injection h with h1 h2
    subst h2
    rw [hP]
    exact ⟨Or.inl, fun h => h.resolve_right fun q => q.1.1 hb⟩
  · cases V with
    | false =>
      rw [learnE_key hb] at h
      injection h with h1 h2
      subst h2
      rw [hP]
      exact ⟨Or.inl, fun h => h.resolve_right fun q => by cases q.1.2⟩
    | true =>
      have hcons : ∀ (h9 : foundD l d = none ∨ foundD l d = some (c, r)), foundD ((d, c, r) :: l) k = some v ↔ P k v ∨ ((¬ learnBad d c r ∧ true = true) ∧ d = k ∧ v = (c, r)) := fun h9 => by
        rw [foundD]
        by_cases hk : d = k
        · rw [if_pos hk]
          constructor
          · intro e
            exact Or.inr ⟨⟨hb, rfl⟩, hk, (Option.some.inj e).symm⟩
          · rintro (e | ⟨_, _, e⟩)
            · rw [← hP, ← hk] at e
              rcases h9 with h9 | h9
              · rw [h9] at e; cases e
              · rw [h9] at e; exact e
            · rw [e]
        · rw [if_neg hk, hP]
          exact ⟨Or.inl, fun h => h.resolve_right fun q => hk q.2.1⟩
      cases hf : foundD l d with
      | none =>
        rw [learnE_new hb hf] at h
        injection h with h1 h2
        subst h2
        exact hcons (Or.inl hf)
      | some cr =>
        obtain ⟨c0, r0⟩ := cr
        by_cases hs : c0 = c ∧ r0 = r
        · obtain ⟨rfl, rfl⟩ := hs
          rw [learnE_same hb hf] at h
          injection h with h1 h2
          subst h2
          exact hcons (Or.inr hf)
        · rw [learnE_fork hb hf hs] at h
          injection h with h1 h2
          exact absurd h1.symm hE
/-- What a reader knows who was told some things, and found no fork. -/
def Knows (K : ByteArray) (q : List Td) (lr : List Dy) : Prop := ∀ k v, foundD lr k = some v ↔ ∃ x ∈ q, accT K x ∧ x.day = k ∧ v = (x.count, x.root)
theorem knows_nil (K : ByteArray) : Knows K [] [] := fun k v => by
  rw [foundD]
  constructor
  · intro h; cases h
  · rintro ⟨x, hx, _⟩; cases hx
theorem Knows.step {K : ByteArray} {q q' : List Td} {lr l' : List Dy} {E : Int} {x : Td} (h : Knows K q lr) (hq : ∀ y, y ∈ q' ↔ y ∈ q ∨ y = x) (hl : learnE lr (vT K x) x.day x.count x.root = (E, l')) (hE : E ≠ 23) : Knows K q' l' := fun k v => by
  rw [learn_inv hl hE _ h k v]
  constructor
  · rintro (⟨y, hy, h1⟩ | ⟨h1, h2, h3⟩)
    · exact ⟨y, (hq y).2 (Or.inl hy), h1⟩
    · exact ⟨x, (hq x).2 (Or.inr rfl), h1, h2, h3⟩
  · rintro ⟨y, hy, h1, h2, h3⟩
    rcases (hq y).1 hy with hy | rfl
    · exact Or.inl ⟨y, hy, h1, h2, h3⟩
    · exact Or.inr ⟨h1, h2, h3⟩
theorem Knows.same {K : ByteArray} {q : List Td} {lr ls : List Dy} (h1 : Knows K q lr) (h2 : Knows K q ls) : ∀ k, foundD lr k = foundD ls k := fun k => by
  refine Option.ext fun v => ?_
  rw [h1 k v, h2 k v]
theorem was_same {lr ls : List Dy} (h : ∀ k, foundD lr k = foundD ls k) (d : Int) (p : Pf) : wasE lr d p = wasE ls d p := by
  unfold wasE
  rw [h]
theorem take_mem (l : List Td) {i : Nat} (hi : i < l.length) (y : Td) : y ∈ l.take (i + 1) ↔ y ∈ l.take i ∨ y = l[i] := by
  rw [List.take_succ_eq_append_getElem hi, List.mem_append, List.mem_singleton]
theorem drop_mem (l : List Td) {k : Nat} (hk : k < l.length) (y : Td) : y ∈ l.drop k ↔ y ∈ l.drop (k + 1) ∨ y = l[k] := by
  rw [List.drop_eq_getElem_cons hk, List.mem_cons]
  exact Or.comm
theorem learn_len {l l' : List Dy} {V : Bool} {d c E : Int} {r : ByteArray} (h : learnE l V d c r = (E, l')) : l'.length ≤ l.length + 1 := by
  unfold learnE at h
  split at h
  · injection h with _ h; rw [← h]; omega
  · split at h
    · injection h with _ h; rw [← h]; omega
    · split at h
      · split at h
        · injection h with _ h; rw [← h]; simp
        · injection h with _ h; rw [← h]; omega
      · injection h with _ h; rw [← h]; simp
end Go.Proofs.YtobhpeockinnjaaGreatDoor
/- The law ProofOrders. No conditions but those that each theorem states. -/
namespace Go.Proofs.YtobhpeockinnjaaGreatDoor
open Go Go.RowKit Go.Sort Go.Maps
attribute [local go_sem] Oper.semAt_some
theorem Tds.cells {w : World} {B b off : Nat} {l : List Td} (h : Tds w B (some ⟨b, off, none⟩) l) {k : Nat} (hk : k < l.length) (x : Td) (hx : l[k] = x) :
    w.cell? ⟨b, off + k * 4, none⟩ = some (.int .i64 x.day) ∧ w.cell? ⟨b, off + k * 4 + 1, none⟩ = some (.int .i64 x.count) ∧ w.cell? ⟨b, off + k * 4 + 2, none⟩ = some (.string x.root) ∧ w.cell? ⟨b, off + k * 4 + 3, none⟩ = some (.bool x.wrong) := by
  subst hx
  obtain ⟨b', off', e, _, h0, h1, h2, h3⟩ := h.get hk
  cases e
  exact ⟨h0, h1, h2, h3⟩
/-- Blocks that lie apart: a variable's, two readers' and their maps'. -/
structure Ap (g ba ma bb mb : Nat) : Prop where
  ga : g < ma
  gb : g < mb
  ab : ba ≠ mb
  ba : bb ≠ ma
  mm : ma ≠ mb
/-- What the law holds: the proof in its variable, two readers. -/
structure OS (w0 : World) (p : Pf) (A2 : Option Addr) (m2 c2 : Nat) (K : ByteArray) (ba ma : Nat) (lr : List Dy) (bb mb : Nat) (ls : List Dy) (X : World) : Prop where
  r1 : X.heap[w0.heap.size]? = some (.cells #[.int .i64 p.count, .int .i64 p.idx, .int .i64 p.it.kind, .string p.it.id, .string p.it.parent, .string p.it.number, .string p.it.north, .string p.it.south, .bool p.it.gone, .slice A2 m2 c2] 29 (0, 0))
  up : Below w0.heap.size w0 X
  ra : Rd ba ma K lr X
  rb : Rd bb mb K ls X
theorem OS.below {w0 : World} {p : Pf} {A2 : Option Addr} {m2 c2 : Nat} {K : ByteArray} {ba ma : Nat} {lr : List Dy} {bb mb : Nat} {ls : List Dy} {X X' : World} (h : OS w0 p A2 m2 c2 K ba ma lr bb mb ls X) (hb : Below X.heap.size X X') : OS w0 p A2 m2 c2 K ba ma lr bb mb ls X' :=
  ⟨iNext h.r1 hb, bnext h.up hb, h.ra.below hb, h.rb.below hb⟩
theorem OS.learnA {w0 : World} {p : Pf} {A2 : Option Addr} {m2 c2 : Nat} {K : ByteArray} {ba ma : Nat} {lr : List Dy} {bb mb : Nat} {ls : List Dy} {X X' : World} {l' : List Dy} (h : OS w0 p A2 m2 c2 K ba ma lr bb mb ls X) (ap : Ap w0.heap.size ba ma bb mb) (ho : Off [ma] X X') (hR : Rd ba ma K l' X') : OS w0 p A2 m2 c2 K ba ma l' bb mb ls X' :=
  ⟨ho.row h.r1 (by simpa using Nat.ne_of_lt ap.ga), h.up.trans (ho.below (B := w0.heap.size) h.up.size (by simpa using Nat.le_of_lt ap.ga)), hR, h.rb.far ho (by simpa using ap.ba) (by simpa using ap.mm.symm)⟩
theorem OS.learnB {w0 : World} {p : Pf} {A2 : Option Addr} {m2 c2 : Nat} {K : ByteArray} {ba ma : Nat} {lr : List Dy} {bb mb : Nat} {ls : List Dy} {X X' : World} {l' : List Dy} (h : OS w0 p A2 m2 c2 K ba ma lr bb mb ls X) (ap : Ap w0.heap.size ba ma bb mb) (ho : Off [mb] X X') (hR : Rd bb mb K l' X') : OS w0 p A2 m2 c2 K ba ma lr bb mb l' X' :=
  ⟨ho.row h.r1 (by simpa using Nat.ne_of_lt ap.gb), h.up.trans (ho.below (B := w0.heap.size) h.up.size (by simpa using Nat.le_of_lt ap.gb)), h.ra.far ho (by simpa using ap.ab) (by simpa using ap.mm), hR⟩
/-- .. and a seal in its variable. -/
structure OT (w0 : World) (p : Pf) (A2 : Option Addr) (m2 c2 : Nat) (K : ByteArray) (ba ma : Nat) (lr : List Dy) (bb mb : Nat) (ls : List Dy) (s1 : Nat) (A : Option Addr) (c : Nat) (A' : Option Addr) (c' : Nat) (SG : List ByteArray) (X : World) : Prop where
  o : OS w0 p A2 m2 c2 K ba ma lr bb mb ls X
  s : SR s1 A c A' c' SG X
theorem OT.below {w0 : World} {p : Pf} {A2 : Option Addr} {m2 c2 : Nat} {K : ByteArray} {ba ma : Nat} {lr : List Dy} {bb mb : Nat} {ls : List Dy} {s1 : Nat} {A : Option Addr} {c : Nat} {A' : Option Addr} {c' : Nat} {SG : List ByteArray} {X X' : World} (h : OT w0 p A2 m2 c2 K ba ma lr bb mb ls s1 A c A' c' SG X) (hb : Below X.heap.size X X') : OT w0 p A2 m2 c2 K ba ma lr bb mb ls s1 A c A' c' SG X' := ⟨h.o.below hb, h.s.next hb⟩
/-- .. and days. -/
structure OZ (w0 : World) (p : Pf) (A2 : Option Addr) (m2 c2 : Nat) (K : ByteArray) (ba ma : Nat) (lr : List Dy) (bb mb : Nat) (ls : List Dy) (AD : Option Addr) (L : List Int) (X : World) : Prop where
  o : OS w0 p A2 m2 c2 K ba ma lr bb mb ls X
  z : Zs X X.heap.size AD L
theorem OZ.below {w0 : World} {p : Pf} {A2 : Option Addr} {m2 c2 : Nat} {K : ByteArray} {ba ma : Nat} {lr : List Dy} {bb mb : Nat} {ls : List Dy} {AD : Option Addr} {L : List Int} {X X' : World} (h : OZ w0 p A2 m2 c2 K ba ma lr bb mb ls AD L X) (hb : Below X.heap.size X X') : OZ w0 p A2 m2 c2 K ba ma lr bb mb ls AD L X' := ⟨h.o.below hb, h.z.keep hb⟩
theorem Zs.cellz {w : World} {B b off : Nat} {l : List Int} (h : Zs w B (some ⟨b, off, none⟩) l) {k : Nat} (hk : k < l.length) (x : Int) (hx : l[k] = x) : w.cell? ⟨b, off + k, none⟩ = some (.int .i64 x) := by
  subst hx
  obtain ⟨b', off', e, _, h0⟩ := h.get hk
  cases e
  exact h0
theorem days_known {K : ByteArray} {q : List Td} {lr : List Dy} (h : Knows K q lr) {d : Int} (hd : d ∈ daysS lr) : 0 ≤ d ∧ d ≤ 1000000 := by
  rw [daysS_mem, Option.isSome_iff_exists] at hd
  obtain ⟨v, hv⟩ := hd
  obtain ⟨x, _, ⟨hb, _⟩, he, _⟩ := (h d v).1 hv
  subst he
  unfold learnBad at hb
  omega
theorem daysS_le (l : List Dy) : (daysS l).length ≤ l.length := by
  rw [daysS_len]
  induction l with
  | nil => exact Nat.le_refl _
  | cons x l ih =>
    obtain ⟨d, c, r⟩ := x
    rw [daysD, size_put (daysD_tidy l)]
    split
    · exact Nat.le_succ_of_le ih
    · exact Nat.succ_le_succ ih
theorem daysS_upo (l : List Dy) : ∀ (i : Nat) (a b : Int), (daysS l)[i]? = some a → (daysS l)[i + 1]? = some b → a < b := fun i a b ha hb => by
  obtain ⟨h1, rfl⟩ := List.getElem?_eq_some_iff.1 ha
  obtain ⟨h2, rfl⟩ := List.getElem?_eq_some_iff.1 hb
  exact daysS_up l h2
set_option maxRecDepth 100000 in
set_option maxHeartbeats 16000000 in
theorem law_orders (l : List Td) (T : Option Addr) (n c : Nat) (hl : l.length = n) (hn : n ≤ 9223372036854775807) (hw : ∀ x ∈ l, TdW x) (p : Pf) (A2 : Option Addr) (m2 c2 : Nat) (hm2 : p.path.length = m2) (hpz : m2 ≤ 9223372036854775807) (hpt : ItW p.it) (hsum : p.it.id.size + p.it.parent.size + p.it.number.size ≤ 9223372036854775807)
    (w : World) (he : Env w) (hT : Tds w w.heap.size T l) (hP : Strs w w.heap.size A2 p.path) :
    Calls Tryz.prog 8 #[.slice T n c, .agg #[.int .i64 p.count, .int .i64 p.idx, .int .i64 p.it.kind, .string p.it.id, .string p.it.parent, .string p.it.number, .string p.it.north, .string p.it.south, .bool p.it.gone, .slice A2 m2 c2]] w fun e w' => e = .returned (.bool true) ∧ Below w.heap.size w w' := by
  have hmx : Tryz.prog.follows .mixedOrders = true := by kernel_rfl
  have hb1 := Below.news (Below.refl w.heap.size w) (.cells #[.int .i64 p.count, .int .i64 p.idx, .int .i64 p.it.kind, .string p.it.id, .string p.it.parent, .string p.it.number, .string p.it.north, .string p.it.south, .bool p.it.gone, .slice A2 m2 c2] 29)
  have hr1 := heap_alloc_new w (.cells #[.int .i64 p.count, .int .i64 p.idx, .int .i64 p.it.kind, .string p.it.id, .string p.it.parent, .string p.it.number, .string p.it.north, .string p.it.south, .bool p.it.gone, .slice A2 m2 c2] 29)
  have HL := hide hl; have HW := hide hw; have HM2 := hide hm2; have HT := hide hT; have HP := hide hP
  clear hl hw hm2 hT hP
  go_enter Tryz.func8, Tryz.ntmps8
  go_wp2_with fail
  generalize w.alloc (.cells #[.int .i64 p.count, .int .i64 p.idx, .int .i64 p.it.kind, .string p.it.id, .string p.it.parent, .string p.it.number, .string p.it.north, .string p.it.south, .bool p.it.gone, .slice A2 m2 c2] 29) = w1 at *
  refine (head44_of w1 (he.next hb1)).mono ?_
  rintro e w2 ⟨rfl, hx2⟩
  have hr2 := iNext hr1 hx2
  have hb2 := bnext hb1 hx2
  clear hr1 hb1 hx2
  obtain ⟨F, hF⟩ : ∃ F, shortL l 8 = F := ⟨_, rfl⟩
  go_wp2_with fail
  refine (short_of l T n c HL.out hn 8 w2 ((HT.out.below hb2).more hb2.size) (fun x hx => (HW.out x hx).rz) F hF).mono ?_
  rintro e w3 ⟨rfl, hx3⟩
  have hr3 := iNext hr2 hx3
  have hb3 := bnext hb2 hx3
  clear hr2 hb2 hx3
  cases F with
  | false =>
    clear hF
    go_wp2
    go_ret
    exact ⟨rfl, hb3⟩
  | true =>
    obtain ⟨n8, z8⟩ := shortL_spec hF
    rw [HL.out] at n8
    have hn8 : n ≤ 8 := by omega
    have HZ := hide z8
    clear hF z8 n8
    obtain ⟨G, hG⟩ : ∃ G, fewP p = G := ⟨_, rfl⟩
    obtain ⟨z0, z1, z2, z3, z4, z5, z6, z7, z8, z9⟩ := jCells10 hr3
    go_wp2_with fail
    refine (rfewP_of p A2 m2 c2 HM2.out hpz ⟨hpt.iz, hpt.pz, hpt.nz⟩ hsum w3 ((HP.out.below hb3).more hb3.size) G hG).mono ?_
    rintro e w4 ⟨rfl, hx4⟩
    have hr4 := iNext hr3 hx4
    have hb4 := bnext hb3 hx4
    clear hr3 hb3 hx4 z0 z1 z2 z3 z4 z5 z6 z7 z8 z9 hsum hpt
    cases G with
    | false =>
      clear hG
      go_wp2
      go_ret
      exact ⟨rfl, hb4⟩
    | true =>
      obtain ⟨PZ, p30, PP⟩ := fewP_leaf hG
      rw [HM2.out] at p30
      have HPZ := hide PZ; have HPP := hide PP
      clear hG PZ PP
      obtain ⟨K, hK⟩ : ∃ K, Dg.publicB offB 0 = K := ⟨_, rfl⟩
      obtain ⟨S0, hS0⟩ : ∃ S, Dg.sigB (secB false) 0 (msgB 0 0 ⟨#[]⟩) = S := ⟨_, rfl⟩
      have HK := hide hK; have HS0 := hide hS0
      clear hK hS0
      go_wp2_with fail
      refine (signed_of 0 0 ⟨#[]⟩ false (by decide) (by decide) (by decide) (by decide) (by decide) w4 (he.next hb4) K HK.out S0 HS0.out).mono ?_
      rintro e w5 ⟨A5, c5, B5, d5, rfl, _, _, hx5⟩
      have hx6 := Below.news (Below.refl w5.heap.size w5) (.cells #[.int .i64 0, .slice A5 18 c5, .slice B5 0 d5] 42)
      have hr6 := iNext (iNext hr4 hx5) hx6
      have hb6 := bnext (bnext hb4 hx5) hx6
      clear hr4 hb4 hx5 hx6 HS0
      go_wp2_with fail
      generalize w5.alloc (.cells #[.int .i64 0, .slice A5 18 c5, .slice B5 0 d5] 42) = w6 at *
      generalize w5.heap.size = s0 at *
      refine (pnew_of K w6).mono ?_
      rintro e w7 ⟨rfl, hR7, hz7, hx7⟩
      have HZ7 := hide hz7
      clear hz7
      go_wp2_with fail
      refine (pnew_of K w7).mono ?_
      rintro e w8 ⟨rfl, hR8, _, hx8⟩
      have HAP := hide (show Ap w.heap.size (w6.heap.size + 1) w6.heap.size (w7.heap.size + 1) w7.heap.size by
        have h1 := HZ7.out
        have h2 := lt_of_block hr6
        constructor <;> omega)
      have hS8 : OS w p A2 m2 c2 K (w6.heap.size + 1) w6.heap.size [] (w7.heap.size + 1) w7.heap.size [] w8 := ⟨iNext (iNext hr6 hx7) hx8, bnext (bnext hb6 hx7) hx8, hR7.below hx8, hR8⟩
      clear hr6 hb6 hx7 hx8 hR7 hR8 HZ7
      generalize w6.heap.size + 1 = ba at *
      generalize w6.heap.size = ma at *
      generalize w7.heap.size + 1 = bb at *
      generalize w7.heap.size = mb at *
      go_wp2
      go_loopw [10] (fun iv wr => ∃ k : Nat, k ≤ n ∧ iv = .int .i64 (k : Int) ∧ ∃ lr ls, OS w p A2 m2 c2 K ba ma lr bb mb ls wr ∧ lr.length ≤ k ∧ ls.length ≤ k ∧ Hid (Knows K (l.take k) lr ∧ Knows K (l.drop (n - k)) ls)) (fun iv _ => n - (intOf iv).toNat)
      case atStart => exact ⟨0, by omega, rfl, [], [], hS8, by simp, by simp, ⟨knows_nil K, by
        rw [Nat.sub_zero, List.drop_eq_nil_of_le (by rw [HL.out]; exact Nat.le_refl _)]
        exact knows_nil K⟩⟩
      case round =>
        clear hS8
        obtain ⟨k, hk, rfl, lr, ls, hS, hlr, hls, HKN⟩ := hrel
        by_cases hlt : k < n
        · have hkl : k < l.length := by rw [HL.out]; exact hlt
          have hjl : n - 1 - k < l.length := by rw [HL.out]; omega
          obtain ⟨b, off, rfl, _⟩ := HT.out.get hkl
          have hkn : (k : Int) < (n : Int) := by omega
          have hk0 : (0 : Int) ≤ (k : Int) := by omega
          obtain ⟨x, hx⟩ : ∃ x, l[k] = x := ⟨_, rfl⟩
          have hwx : TdW x := by rw [← hx]; exact HW.out _ (List.getElem_mem _)
          have hrz : x.root.size ≤ 100 := by rw [← hx]; exact HZ.out _ (List.getElem_mem _)
          obtain ⟨q0, q1, q2, q3⟩ := (HT.out.below hS.up).cells hkl x hx
          obtain ⟨SG, hSG⟩ : ∃ S, Dg.sigB (secB x.wrong) 0 (msgB x.day x.count x.root) = S := ⟨_, rfl⟩
          have N1 := hide (show SG.length = 18 by rw [← hSG]; exact Dg.sigB_len _ _ _)
          have Z1 := hide (show ∀ s ∈ SG, s.size ≤ 1048576 by rw [← hSG]; exact sigB_small _ _ _)
          obtain ⟨V, hV⟩ : ∃ V, vT K x = V := ⟨_, rfl⟩
          have HVT := hide hV
          have HV := hide (show verifyB K (msgB x.day x.count x.root) 0 SG [] = V by rw [← hV, ← hSG]; rfl)
          obtain ⟨E, D, hE⟩ : ∃ E D, learnE lr V x.day x.count x.root = (E, D) := ⟨_, _, rfl⟩
          have HE := hide hE; have HSG := hide hSG; have HX := hide hx; have HIX := hide hkl
          have d0 := hwx.d0; have d1 := hwx.d1; have c0 := hwx.c0; have c1 := hwx.c1
          clear hV hSG hE hx hwx
          go_wp2_with fail
          refine (signed_of x.day x.count x.root x.wrong d0 d1 c0 c1 (Nat.le_trans hrz (by decide)) _ (he.next hS.up) K HK.out SG HSG.out).mono ?_
          rintro e v2 ⟨A, c, A', c', rfl, hc, hs2, hx2⟩
          have hs := SR.new (c := c) (A' := A') (c' := c') hs2
          have hx3 := Below.news (Below.refl v2.heap.size v2) (.cells #[.int .i64 0, .slice A 18 c, .slice A' 0 c'] 42)
          have hT3 : OT w p A2 m2 c2 K ba ma lr bb mb ls v2.heap.size A c A' c' SG (v2.alloc (.cells #[.int .i64 0, .slice A 18 c, .slice A' 0 c'] 42)) := ⟨(hS.below hx2).below hx3, hs⟩
          clear hS hx2 hx3 hs2 hs q0 q1 q2 q3
          go_upto_region 11 with (fail)
          generalize v2.alloc (.cells #[.int .i64 0, .slice A 18 c, .slice A' 0 c'] 42) = v3 at *
          generalize v2.heap.size = s1 at *
          refine wp_region_noPanic ?_
          refine wp_region_L (OT w p A2 m2 c2 K ba ma lr bb mb ls s1 A c A' c' SG) 17 hmx ?_
          have hdr := (Below.refl v3.heap.size v3).drew
          have hS21 : (OT w p A2 m2 c2 K ba ma lr bb mb ls s1 A c A' c' SG) v3.drew := hT3.below hdr
          clear hdr hT3
          generalize v3.drew = w21 at *
          refine wpAnyL_take (i := 0) (f0 := 21) (v := ?_) rfl (by decide +kernel) (by decide +kernel) (by decide +kernel) (by decide +kernel) (by decide +kernel) (fun _ _ _ h => h) (Or.inl ⟨by rfl, ?_⟩) hS21 ?_
          rotate_left
          · intro wS hS; go_simp; (try with_reducible rfl)
          simp only [Act.put, List.getElem_toArray, List.getElem_cons_zero, List.setIfInBounds_toArray, List.set_cons_succ, List.set_cons_zero]
          refine wpAnyL_take (i := 1) (f0 := 21) (v := ?_) rfl (by decide +kernel) (by decide +kernel) (by decide +kernel) (by decide +kernel) (by decide +kernel) (fun _ _ _ h => h) (Or.inl ⟨by rfl, ?_⟩) hS21 ?_
          rotate_left
          · intro wS hS; go_simp; (try with_reducible rfl)
          simp only [Act.put, List.getElem_toArray, List.getElem_cons_succ, List.getElem_cons_zero, List.setIfInBounds_toArray, List.set_cons_succ, List.set_cons_zero]
          refine wpAnyL_take (i := 2) (f0 := 21) (v := ?_) rfl (by decide +kernel) (by decide +kernel) (by decide +kernel) (by decide +kernel) (by decide +kernel) (fun _ _ _ h => h) (Or.inl ⟨by rfl, ?_⟩) hS21 ?_
          rotate_left
          · intro wS hS; go_simp; (try with_reducible rfl)
          simp only [Act.put, List.getElem_toArray, List.getElem_cons_succ, List.getElem_cons_zero, List.setIfInBounds_toArray, List.set_cons_succ, List.set_cons_zero]
          refine wpAnyL_take (i := 3) (f0 := 21) (v := ?_) rfl (by decide +kernel) (by decide +kernel) (by decide +kernel) (by decide +kernel) (by decide +kernel) (fun _ _ _ h => h) (Or.inl ⟨by rfl, ?_⟩) hS21 ?_
          rotate_left
          · intro wS hS; go_simp; (try with_reducible rfl)
          simp only [Act.put, List.getElem_toArray, List.getElem_cons_succ, List.getElem_cons_zero, List.setIfInBounds_toArray, List.set_cons_succ, List.set_cons_zero]
          refine wpAnyL_take (i := 4) (f0 := 21) (v := ?_) rfl (by decide +kernel) (by decide +kernel) (by decide +kernel) (by decide +kernel) (by decide +kernel) (fun _ _ _ h => h) (Or.inl ⟨by rfl, ?_⟩) hS21 ?_
          rotate_left
          · intro wS hS; go_simp; (try with_reducible rfl)
          simp only [Act.put, List.getElem_toArray, List.getElem_cons_succ, List.getElem_cons_zero, List.setIfInBounds_toArray, List.set_cons_succ, List.set_cons_zero]
          refine wpAnyL_take (i := 5) (f0 := 21) (v := ?_) rfl (by decide +kernel) (by decide +kernel) (by decide +kernel) (by decide +kernel) (by decide +kernel) (fun _ _ _ h => h) (Or.inl ⟨by rfl, ?_⟩) hS21 ?_
          rotate_left
          · intro wS hS; obtain ⟨q0, q1, q2, q3⟩ := (HT.out.below hS.o.up).cells HIX.out x HX.out; go_simp; (try with_reducible rfl)
          simp only [Act.put, List.getElem_toArray, List.getElem_cons_succ, List.getElem_cons_zero, List.setIfInBounds_toArray, List.set_cons_succ, List.set_cons_zero]
          refine wpAnyL_take (i := 6) (f0 := 21) (v := ?_) rfl (by decide +kernel) (by decide +kernel) (by decide +kernel) (by decide +kernel) (by decide +kernel) (fun _ _ _ h => h) (Or.inl ⟨by rfl, ?_⟩) hS21 ?_
          rotate_left
          · intro wS hS; go_simp; (try with_reducible rfl)
          simp only [Act.put, List.getElem_toArray, List.getElem_cons_succ, List.getElem_cons_zero, List.setIfInBounds_toArray, List.set_cons_succ, List.set_cons_zero]
          refine wpAnyL_take (i := 7) (f0 := 21) (v := ?_) rfl (by decide +kernel) (by decide +kernel) (by decide +kernel) (by decide +kernel) (by decide +kernel) (fun _ _ _ h => h) (Or.inl ⟨by rfl, ?_⟩) hS21 ?_
          rotate_left
          · intro wS hS; go_simp; (try with_reducible rfl)
          simp only [Act.put, List.getElem_toArray, List.getElem_cons_succ, List.getElem_cons_zero, List.setIfInBounds_toArray, List.set_cons_succ, List.set_cons_zero]
          refine wpAnyL_take (i := 8) (f0 := 21) (v := ?_) rfl (by decide +kernel) (by decide +kernel) (by decide +kernel) (by decide +kernel) (by decide +kernel) (fun _ _ _ h => h) (Or.inl ⟨by rfl, ?_⟩) hS21 ?_
          rotate_left
          · intro wS hS; go_simp; (try with_reducible rfl)
          simp only [Act.put, List.getElem_toArray, List.getElem_cons_succ, List.getElem_cons_zero, List.setIfInBounds_toArray, List.set_cons_succ, List.set_cons_zero]
          refine wpAnyL_take (i := 9) (f0 := 21) (v := ?_) rfl (by decide +kernel) (by decide +kernel) (by decide +kernel) (by decide +kernel) (by decide +kernel) (fun _ _ _ h => h) (Or.inl ⟨by rfl, ?_⟩) hS21 ?_
          rotate_left
          · intro wS hS; go_simp; (try with_reducible rfl)
          simp only [Act.put, List.getElem_toArray, List.getElem_cons_succ, List.getElem_cons_zero, List.setIfInBounds_toArray, List.set_cons_succ, List.set_cons_zero]
          refine wpAnyL_take (i := 10) (f0 := 21) (v := ?_) rfl (by decide +kernel) (by decide +kernel) (by decide +kernel) (by decide +kernel) (by decide +kernel) (fun _ _ _ h => h) (Or.inl ⟨by rfl, ?_⟩) hS21 ?_
          rotate_left
          · intro wS hS; obtain ⟨q0, q1, q2, q3⟩ := (HT.out.below hS.o.up).cells HIX.out x HX.out; go_simp; (try with_reducible rfl)
          simp only [Act.put, List.getElem_toArray, List.getElem_cons_succ, List.getElem_cons_zero, List.setIfInBounds_toArray, List.set_cons_succ, List.set_cons_zero]
          refine wpAnyL_take (i := 11) (f0 := 21) (v := ?_) rfl (by decide +kernel) (by decide +kernel) (by decide +kernel) (by decide +kernel) (by decide +kernel) (fun _ _ _ h => h) (Or.inl ⟨by rfl, ?_⟩) hS21 ?_
          rotate_left
          · intro wS hS; go_simp; (try with_reducible rfl)
          simp only [Act.put, List.getElem_toArray, List.getElem_cons_succ, List.getElem_cons_zero, List.setIfInBounds_toArray, List.set_cons_succ, List.set_cons_zero]
          refine wpAnyL_take (i := 12) (f0 := 21) (v := ?_) rfl (by decide +kernel) (by decide +kernel) (by decide +kernel) (by decide +kernel) (by decide +kernel) (fun _ _ _ h => h) (Or.inl ⟨by rfl, ?_⟩) hS21 ?_
          rotate_left
          · intro wS hS; go_simp; (try with_reducible rfl)
          simp only [Act.put, List.getElem_toArray, List.getElem_cons_succ, List.getElem_cons_zero, List.setIfInBounds_toArray, List.set_cons_succ, List.set_cons_zero]
          refine wpAnyL_take (i := 13) (f0 := 21) (v := ?_) rfl (by decide +kernel) (by decide +kernel) (by decide +kernel) (by decide +kernel) (by decide +kernel) (fun _ _ _ h => h) (Or.inl ⟨by rfl, ?_⟩) hS21 ?_
          rotate_left
          · intro wS hS; go_simp; (try with_reducible rfl)
          simp only [Act.put, List.getElem_toArray, List.getElem_cons_succ, List.getElem_cons_zero, List.setIfInBounds_toArray, List.set_cons_succ, List.set_cons_zero]
          refine wpAnyL_take (i := 14) (f0 := 21) (v := ?_) rfl (by decide +kernel) (by decide +kernel) (by decide +kernel) (by decide +kernel) (by decide +kernel) (fun _ _ _ h => h) (Or.inl ⟨by rfl, ?_⟩) hS21 ?_
          rotate_left
          · intro wS hS; go_simp; (try with_reducible rfl)
          simp only [Act.put, List.getElem_toArray, List.getElem_cons_succ, List.getElem_cons_zero, List.setIfInBounds_toArray, List.set_cons_succ, List.set_cons_zero]
          refine wpAnyL_take (i := 15) (f0 := 21) (v := ?_) rfl (by decide +kernel) (by decide +kernel) (by decide +kernel) (by decide +kernel) (by decide +kernel) (fun _ _ _ h => h) (Or.inl ⟨by rfl, ?_⟩) hS21 ?_
          rotate_left
          · intro wS hS; obtain ⟨q0, q1, q2, q3⟩ := (HT.out.below hS.o.up).cells HIX.out x HX.out; go_simp; (try with_reducible rfl)
          simp only [Act.put, List.getElem_toArray, List.getElem_cons_succ, List.getElem_cons_zero, List.setIfInBounds_toArray, List.set_cons_succ, List.set_cons_zero]
          refine wpAnyL_take (i := 16) (f0 := 21) (v := ?_) rfl (by decide +kernel) (by decide +kernel) (by decide +kernel) (by decide +kernel) (by decide +kernel) (fun _ _ _ h => h) (Or.inl ⟨by rfl, ?_⟩) hS21 ?_
          rotate_left
          · intro wS hS; obtain ⟨y0, y1, y2⟩ := jCells3 hS.s.row; go_simp; (try with_reducible rfl)
          simp only [Act.put, List.getElem_toArray, List.getElem_cons_succ, List.getElem_cons_zero, List.setIfInBounds_toArray, List.set_cons_succ, List.set_cons_zero]
          refine wpAnyL_one (i := 17) (by decide +kernel) (by rfl) (fun K9 hK => ?_)
          rw [if_pos (by rfl)]
          go_simp
          refine (plearn_of ba ma K lr x.day x.count x.root d0 d1 c0 c1 (Nat.le_trans hrz (by decide)) (by omega) 0 A 18 c SG A' 0 c' [] N1.out Z1.out rfl (fun s hs => by cases hs) hc w21 (he.next hS21.o.up) hS21.s.strs ⟨fun h => by simp at h⟩ hS21.o.ra V HV.out E D HE.out).mono ?_
          rintro e w22 ⟨rfl, hR, ho⟩
          have hS22 := hS21.o.learnA HAP.out ho hR
          refine hK.out _ _ (Or.inl (by decide +kernel)) ?_
          clear hK hS21 hR ho
          try simp only [Act.put, List.getElem_toArray, List.getElem_cons_succ, List.getElem_cons_zero, List.setIfInBounds_toArray, List.set_cons_succ, List.set_cons_zero]
          refine wpAnyL_one (i := 18) (by decide +kernel) (by rfl) (fun K9 hK => ?_)
          rw [if_pos (by rfl)]
          go_simp
          refine hK.out _ _ (Or.inl (by decide +kernel)) ?_
          clear hK
          try simp only [Act.put, List.getElem_toArray, List.getElem_cons_succ, List.getElem_cons_zero, List.setIfInBounds_toArray, List.set_cons_succ, List.set_cons_zero]
          refine wpAnyL_done (by decide +kernel) ?_ _
          refine NoPanic.normal ?_
          have hS1 := hS22
          have HDL := hide (learn_len HE.out)
          by_cases h23 : E = 23
          · have hb23 : (E == (23 : Int)) = true := beq_iff_eq.2 h23
            clear h23
            go_wp2
            go_ret
            exact ⟨rfl, hS1.up⟩
          have hb23 : (E == (23 : Int)) = false := beq_eq_false_iff_ne.2 h23
          have HKA := hide (HKN.out.1.step (take_mem l hkl) (by rw [HX.out, HVT.out]; exact HE.out) h23)
          clear h23 HE HV HVT HSG HX HIX N1 Z1 d0 d1 c0 c1 hrz hc hS22
          have hkk : (n : Int) - 1 - (k : Int) = ((n - 1 - k : Nat) : Int) := by omega
          have hj0 : (0 : Int) ≤ ((n - 1 - k : Nat) : Int) := by omega
          have hj1 : ((n - 1 - k : Nat) : Int) < (n : Int) := by omega
          obtain ⟨D1, hD1⟩ : ∃ D1, D1 = D := ⟨D, rfl⟩
          rw [← hD1] at hS1 HKA HDL
          clear hD1 D
          obtain ⟨x, hx⟩ : ∃ x, l[n - 1 - k] = x := ⟨_, rfl⟩
          have hwx : TdW x := by rw [← hx]; exact HW.out _ (List.getElem_mem _)
          have hrz : x.root.size ≤ 100 := by rw [← hx]; exact HZ.out _ (List.getElem_mem _)
          obtain ⟨q0, q1, q2, q3⟩ := (HT.out.below hS1.up).cells hjl x hx
          obtain ⟨SG, hSG⟩ : ∃ S, Dg.sigB (secB x.wrong) 0 (msgB x.day x.count x.root) = S := ⟨_, rfl⟩
          have N1 := hide (show SG.length = 18 by rw [← hSG]; exact Dg.sigB_len _ _ _)
          have Z1 := hide (show ∀ s ∈ SG, s.size ≤ 1048576 by rw [← hSG]; exact sigB_small _ _ _)
          obtain ⟨V, hV⟩ : ∃ V, vT K x = V := ⟨_, rfl⟩
          have HVT := hide hV
          have HV := hide (show verifyB K (msgB x.day x.count x.root) 0 SG [] = V by rw [← hV, ← hSG]; rfl)
          obtain ⟨E, D, hE⟩ : ∃ E D, learnE ls V x.day x.count x.root = (E, D) := ⟨_, _, rfl⟩
          have HE := hide hE; have HSG := hide hSG; have HX := hide hx; have HIX := hide hjl
          have d0 := hwx.d0; have d1 := hwx.d1; have c0 := hwx.c0; have c1 := hwx.c1
          clear hV hSG hE hx hwx
          go_wp2_with fail
          refine (signed_of x.day x.count x.root x.wrong d0 d1 c0 c1 (Nat.le_trans hrz (by decide)) _ (he.next hS1.up) K HK.out SG HSG.out).mono ?_
          rintro e v2 ⟨A, c, A', c', rfl, hc, hs2, hx2⟩
          have hs := SR.new (c := c) (A' := A') (c' := c') hs2
          have hx3 := Below.news (Below.refl v2.heap.size v2) (.cells #[.int .i64 0, .slice A 18 c, .slice A' 0 c'] 42)
          have hT3 : OT w p A2 m2 c2 K ba ma D1 bb mb ls v2.heap.size A c A' c' SG (v2.alloc (.cells #[.int .i64 0, .slice A 18 c, .slice A' 0 c'] 42)) := ⟨(hS1.below hx2).below hx3, hs⟩
          clear hS1 hx2 hx3 hs2 hs q0 q1 q2 q3
          go_upto_region 15 with (fail)
          generalize v2.alloc (.cells #[.int .i64 0, .slice A 18 c, .slice A' 0 c'] 42) = v3 at *
          generalize v2.heap.size = s1 at *
          refine wp_region_noPanic ?_
          refine wp_region_L (OT w p A2 m2 c2 K ba ma D1 bb mb ls s1 A c A' c' SG) 17 hmx ?_
          have hdr := (Below.refl v3.heap.size v3).drew
          have hS41 : (OT w p A2 m2 c2 K ba ma D1 bb mb ls s1 A c A' c' SG) v3.drew := hT3.below hdr
          clear hdr hT3
          generalize v3.drew = w41 at *
          refine wpAnyL_take (i := 0) (f0 := 21) (v := ?_) rfl (by decide +kernel) (by decide +kernel) (by decide +kernel) (by decide +kernel) (by decide +kernel) (fun _ _ _ h => h) (Or.inl ⟨by rfl, ?_⟩) hS41 ?_
          rotate_left
          · intro wS hS; go_simp; (try with_reducible rfl)
          simp only [Act.put, List.getElem_toArray, List.getElem_cons_zero, List.setIfInBounds_toArray, List.set_cons_succ, List.set_cons_zero]
          refine wpAnyL_take (i := 1) (f0 := 21) (v := ?_) rfl (by decide +kernel) (by decide +kernel) (by decide +kernel) (by decide +kernel) (by decide +kernel) (fun _ _ _ h => h) (Or.inl ⟨by rfl, ?_⟩) hS41 ?_
          rotate_left
          · intro wS hS; go_simp; (try with_reducible rfl)
          simp only [Act.put, List.getElem_toArray, List.getElem_cons_succ, List.getElem_cons_zero, List.setIfInBounds_toArray, List.set_cons_succ, List.set_cons_zero]
          refine wpAnyL_take (i := 2) (f0 := 21) (v := ?_) rfl (by decide +kernel) (by decide +kernel) (by decide +kernel) (by decide +kernel) (by decide +kernel) (fun _ _ _ h => h) (Or.inl ⟨by rfl, ?_⟩) hS41 ?_
          rotate_left
          · intro wS hS; go_simp; (try with_reducible rfl)
          simp only [Act.put, List.getElem_toArray, List.getElem_cons_succ, List.getElem_cons_zero, List.setIfInBounds_toArray, List.set_cons_succ, List.set_cons_zero]
          refine wpAnyL_take (i := 3) (f0 := 21) (v := ?_) rfl (by decide +kernel) (by decide +kernel) (by decide +kernel) (by decide +kernel) (by decide +kernel) (fun _ _ _ h => h) (Or.inl ⟨by rfl, ?_⟩) hS41 ?_
          rotate_left
          · intro wS hS; go_simp; (try with_reducible rfl)
          simp only [Act.put, List.getElem_toArray, List.getElem_cons_succ, List.getElem_cons_zero, List.setIfInBounds_toArray, List.set_cons_succ, List.set_cons_zero]
          refine wpAnyL_take (i := 4) (f0 := 21) (v := ?_) rfl (by decide +kernel) (by decide +kernel) (by decide +kernel) (by decide +kernel) (by decide +kernel) (fun _ _ _ h => h) (Or.inl ⟨by rfl, ?_⟩) hS41 ?_
          rotate_left
          · intro wS hS; go_simp; (try with_reducible rfl)
          simp only [Act.put, List.getElem_toArray, List.getElem_cons_succ, List.getElem_cons_zero, List.setIfInBounds_toArray, List.set_cons_succ, List.set_cons_zero]
          refine wpAnyL_take (i := 5) (f0 := 21) (v := ?_) rfl (by decide +kernel) (by decide +kernel) (by decide +kernel) (by decide +kernel) (by decide +kernel) (fun _ _ _ h => h) (Or.inl ⟨by rfl, ?_⟩) hS41 ?_
          rotate_left
          · intro wS hS; obtain ⟨q0, q1, q2, q3⟩ := (HT.out.below hS.o.up).cells HIX.out x HX.out; go_simp; (try with_reducible rfl)
          simp only [Act.put, List.getElem_toArray, List.getElem_cons_succ, List.getElem_cons_zero, List.setIfInBounds_toArray, List.set_cons_succ, List.set_cons_zero]
          refine wpAnyL_take (i := 6) (f0 := 21) (v := ?_) rfl (by decide +kernel) (by decide +kernel) (by decide +kernel) (by decide +kernel) (by decide +kernel) (fun _ _ _ h => h) (Or.inl ⟨by rfl, ?_⟩) hS41 ?_
          rotate_left
          · intro wS hS; go_simp; (try with_reducible rfl)
          simp only [Act.put, List.getElem_toArray, List.getElem_cons_succ, List.getElem_cons_zero, List.setIfInBounds_toArray, List.set_cons_succ, List.set_cons_zero]
          refine wpAnyL_take (i := 7) (f0 := 21) (v := ?_) rfl (by decide +kernel) (by decide +kernel) (by decide +kernel) (by decide +kernel) (by decide +kernel) (fun _ _ _ h => h) (Or.inl ⟨by rfl, ?_⟩) hS41 ?_
          rotate_left
          · intro wS hS; go_simp; (try with_reducible rfl)
          simp only [Act.put, List.getElem_toArray, List.getElem_cons_succ, List.getElem_cons_zero, List.setIfInBounds_toArray, List.set_cons_succ, List.set_cons_zero]
          refine wpAnyL_take (i := 8) (f0 := 21) (v := ?_) rfl (by decide +kernel) (by decide +kernel) (by decide +kernel) (by decide +kernel) (by decide +kernel) (fun _ _ _ h => h) (Or.inl ⟨by rfl, ?_⟩) hS41 ?_
          rotate_left
          · intro wS hS; go_simp; (try with_reducible rfl)
          simp only [Act.put, List.getElem_toArray, List.getElem_cons_succ, List.getElem_cons_zero, List.setIfInBounds_toArray, List.set_cons_succ, List.set_cons_zero]
          refine wpAnyL_take (i := 9) (f0 := 21) (v := ?_) rfl (by decide +kernel) (by decide +kernel) (by decide +kernel) (by decide +kernel) (by decide +kernel) (fun _ _ _ h => h) (Or.inl ⟨by rfl, ?_⟩) hS41 ?_
          rotate_left
          · intro wS hS; go_simp; (try with_reducible rfl)
          simp only [Act.put, List.getElem_toArray, List.getElem_cons_succ, List.getElem_cons_zero, List.setIfInBounds_toArray, List.set_cons_succ, List.set_cons_zero]
          refine wpAnyL_take (i := 10) (f0 := 21) (v := ?_) rfl (by decide +kernel) (by decide +kernel) (by decide +kernel) (by decide +kernel) (by decide +kernel) (fun _ _ _ h => h) (Or.inl ⟨by rfl, ?_⟩) hS41 ?_
          rotate_left
          · intro wS hS; obtain ⟨q0, q1, q2, q3⟩ := (HT.out.below hS.o.up).cells HIX.out x HX.out; go_simp; (try with_reducible rfl)
          simp only [Act.put, List.getElem_toArray, List.getElem_cons_succ, List.getElem_cons_zero, List.setIfInBounds_toArray, List.set_cons_succ, List.set_cons_zero]
          refine wpAnyL_take (i := 11) (f0 := 21) (v := ?_) rfl (by decide +kernel) (by decide +kernel) (by decide +kernel) (by decide +kernel) (by decide +kernel) (fun _ _ _ h => h) (Or.inl ⟨by rfl, ?_⟩) hS41 ?_
          rotate_left
          · intro wS hS; go_simp; (try with_reducible rfl)
          simp only [Act.put, List.getElem_toArray, List.getElem_cons_succ, List.getElem_cons_zero, List.setIfInBounds_toArray, List.set_cons_succ, List.set_cons_zero]
          refine wpAnyL_take (i := 12) (f0 := 21) (v := ?_) rfl (by decide +kernel) (by decide +kernel) (by decide +kernel) (by decide +kernel) (by decide +kernel) (fun _ _ _ h => h) (Or.inl ⟨by rfl, ?_⟩) hS41 ?_
          rotate_left
          · intro wS hS; go_simp; (try with_reducible rfl)
          simp only [Act.put, List.getElem_toArray, List.getElem_cons_succ, List.getElem_cons_zero, List.setIfInBounds_toArray, List.set_cons_succ, List.set_cons_zero]
          refine wpAnyL_take (i := 13) (f0 := 21) (v := ?_) rfl (by decide +kernel) (by decide +kernel) (by decide +kernel) (by decide +kernel) (by decide +kernel) (fun _ _ _ h => h) (Or.inl ⟨by rfl, ?_⟩) hS41 ?_
          rotate_left
          · intro wS hS; go_simp; (try with_reducible rfl)
          simp only [Act.put, List.getElem_toArray, List.getElem_cons_succ, List.getElem_cons_zero, List.setIfInBounds_toArray, List.set_cons_succ, List.set_cons_zero]
          refine wpAnyL_take (i := 14) (f0 := 21) (v := ?_) rfl (by decide +kernel) (by decide +kernel) (by decide +kernel) (by decide +kernel) (by decide +kernel) (fun _ _ _ h => h) (Or.inl ⟨by rfl, ?_⟩) hS41 ?_
          rotate_left
          · intro wS hS; go_simp; (try with_reducible rfl)
          simp only [Act.put, List.getElem_toArray, List.getElem_cons_succ, List.getElem_cons_zero, List.setIfInBounds_toArray, List.set_cons_succ, List.set_cons_zero]
          refine wpAnyL_take (i := 15) (f0 := 21) (v := ?_) rfl (by decide +kernel) (by decide +kernel) (by decide +kernel) (by decide +kernel) (by decide +kernel) (fun _ _ _ h => h) (Or.inl ⟨by rfl, ?_⟩) hS41 ?_
          rotate_left
          · intro wS hS; obtain ⟨q0, q1, q2, q3⟩ := (HT.out.below hS.o.up).cells HIX.out x HX.out; go_simp; (try with_reducible rfl)
          simp only [Act.put, List.getElem_toArray, List.getElem_cons_succ, List.getElem_cons_zero, List.setIfInBounds_toArray, List.set_cons_succ, List.set_cons_zero]
          refine wpAnyL_take (i := 16) (f0 := 21) (v := ?_) rfl (by decide +kernel) (by decide +kernel) (by decide +kernel) (by decide +kernel) (by decide +kernel) (fun _ _ _ h => h) (Or.inl ⟨by rfl, ?_⟩) hS41 ?_
          rotate_left
          · intro wS hS; obtain ⟨y0, y1, y2⟩ := jCells3 hS.s.row; go_simp; (try with_reducible rfl)
          simp only [Act.put, List.getElem_toArray, List.getElem_cons_succ, List.getElem_cons_zero, List.setIfInBounds_toArray, List.set_cons_succ, List.set_cons_zero]
          refine wpAnyL_one (i := 17) (by decide +kernel) (by rfl) (fun K9 hK => ?_)
          rw [if_pos (by rfl)]
          go_simp
          refine (plearn_of bb mb K ls x.day x.count x.root d0 d1 c0 c1 (Nat.le_trans hrz (by decide)) (by omega) 0 A 18 c SG A' 0 c' [] N1.out Z1.out rfl (fun s hs => by cases hs) hc w41 (he.next hS41.o.up) hS41.s.strs ⟨fun h => by simp at h⟩ hS41.o.rb V HV.out E D HE.out).mono ?_
          rintro e w42 ⟨rfl, hR, ho⟩
          have hS42 := hS41.o.learnB HAP.out ho hR
          refine hK.out _ _ (Or.inl (by decide +kernel)) ?_
          clear hK hS41 hR ho
          try simp only [Act.put, List.getElem_toArray, List.getElem_cons_succ, List.getElem_cons_zero, List.setIfInBounds_toArray, List.set_cons_succ, List.set_cons_zero]
          refine wpAnyL_one (i := 18) (by decide +kernel) (by rfl) (fun K9 hK => ?_)
          rw [if_pos (by rfl)]
          go_simp
          refine hK.out _ _ (Or.inl (by decide +kernel)) ?_
          clear hK
          try simp only [Act.put, List.getElem_toArray, List.getElem_cons_succ, List.getElem_cons_zero, List.setIfInBounds_toArray, List.set_cons_succ, List.set_cons_zero]
          refine wpAnyL_done (by decide +kernel) ?_ _
          refine NoPanic.normal ?_
          have hS2 := hS42
          have HDL2 := hide (learn_len HE.out)
          by_cases h23 : E = 23
          · have hb23 : (E == (23 : Int)) = true := beq_iff_eq.2 h23
            clear h23
            go_wp2
            go_ret
            exact ⟨rfl, hS2.up⟩
          have hb23 : (E == (23 : Int)) = false := beq_eq_false_iff_ne.2 h23
          have HKB := hide (HKN.out.2.step (fun y => by
            have e1 : n - (k + 1) = n - 1 - k := by omega
            have e2 : n - k = n - 1 - k + 1 := by omega
            rw [e2]
            exact drop_mem l hjl y) (by rw [HX.out, HVT.out]; exact HE.out) h23)
          have HRE := hide (show n - (k + 1) = n - 1 - k by omega)
          clear h23 HE HV HVT HSG HX HIX N1 Z1 d0 d1 c0 c1 hrz hc hS42
          go_wp2
          go_roundw
          case rel => exact ⟨k + 1, by omega, by go_num, D1, D, hS2, by have := HDL.out; omega, by have := HDL2.out; omega, ⟨HKA.out, by rw [HRE.out]; exact HKB.out⟩⟩
          case measure => simp [intOf]; omega
        · obtain rfl : n = k := by omega
          have hkl : Knows K l lr ∧ Knows K l ls := by
            obtain ⟨h1, h2⟩ := HKN.out
            rw [Nat.sub_self, List.drop_zero] at h2
            rw [← HL.out, List.take_length] at h1
            exact ⟨h1, h2⟩
          have HKW := hide hkl.1
          have HSM := hide (hkl.1.same hkl.2)
          have HDE := hide (daysS_same (hkl.1.same hkl.2))
          clear hkl HKN
          go_wp2_with fail
          refine (pdays_of ba ma K lr (by omega) wr hS.ra).mono ?_
          rintro e w2 ⟨⟨AD, cd, rfl, hz⟩, hx⟩
          have hS2 : OZ w p A2 m2 c2 K ba ma lr bb mb ls AD (daysS lr) w2 := ⟨hS.below hx, hz⟩
          clear hS hz hx
          go_wp2_with fail
          refine (pdays_of bb mb K ls (by omega) w2 hS2.o.rb).mono ?_
          rintro e w3 ⟨⟨AE, ce, rfl, hz⟩, hx⟩
          have hS3 := hS2.below hx
          clear hS2 hx
          have hdl : (daysS lr).length ≤ n := Nat.le_trans (daysS_le lr) hlr
          rw [← HDE.out] at hz
          simp only [← HDE.out]
          go_wp2_with fail
          refine (ints_any AD AE cd ce (daysS lr) (daysS lr) w3 (by omega) (by omega) hS3.z hz).mono ?_
          rintro e w4 ⟨rfl, hx⟩
          have hS4 := hS3.below hx
          have hdd : decide (daysS lr = daysS lr) = true := decide_eq_true rfl
          rw [hdd]
          clear hS3 hx hz hdd
          have HDU := hide (daysS_upo lr)
          have HDK := hide (fun d (hd : d ∈ daysS lr) => days_known HKW.out hd)
          obtain ⟨DL, hDL⟩ : ∃ DL, daysS lr = DL := ⟨_, rfl⟩
          rw [hDL] at hS4 HDK hdl HDU
          simp only [hDL]
          clear hDL HDE HKW
          obtain ⟨dn, hdn⟩ : ∃ dn, DL.length = dn := ⟨_, rfl⟩
          rw [hdn] at hdl
          simp only [hdn]
          have HDN := hide hdn
          clear hdn
          go_wp2
          go_loopw [17] (fun iv wr => ∃ j : Nat, j ≤ dn ∧ iv = .int .i64 (j : Int) ∧ OZ w p A2 m2 c2 K ba ma lr bb mb ls AD DL wr) (fun iv _ => dn - (intOf iv).toNat)
          case atStart => exact ⟨0, by omega, rfl, hS4⟩
          case round =>
            clear hS4
            obtain ⟨j, hj, rfl, hS⟩ := hrel
            by_cases hjt : j < dn
            · have hjl : j < DL.length := by rw [HDN.out]; exact hjt
              obtain ⟨bd, od, rfl⟩ : ∃ bd od, AD = some ⟨bd, od, none⟩ := by
                obtain ⟨bd, od, e, _⟩ := hS.z.get hjl
                exact ⟨bd, od, e⟩
              obtain ⟨d, hd⟩ : ∃ d, DL[j] = d := ⟨_, rfl⟩
              have hdk := HDK.out d (by rw [← hd]; exact List.getElem_mem hjl)
              have HD := hide hd
              have HJL := hide hjl
              obtain ⟨E, hE⟩ : ∃ E, wasE lr d p = E := ⟨_, rfl⟩
              have HE := hide hE
              have HE2 := hide (show wasE ls d p = E by rw [← hE]; exact (was_same HSM.out d p).symm)
              have hne : ((E : Int) != E) = false := bne_self_eq_false _
              have hjn : (j : Int) < (dn : Int) := by omega
              have hj0 : (0 : Int) ≤ (j : Int) := by omega
              clear hd hE
              by_cases hj1 : 0 < j
              · have hjp : (0 : Int) < (j : Int) := by omega
                have hjm : (j : Int) - 1 = ((j - 1 : Nat) : Int) := by omega
                have hjl1 : j - 1 < DL.length := by rw [HDN.out]; omega
                obtain ⟨d1, hd1⟩ : ∃ d1, DL[j - 1] = d1 := ⟨_, rfl⟩
                have hlt1 : ¬ d ≤ d1 := by
                  have e1 : j - 1 + 1 = j := by omega
                  have h1 := HDU.out (j - 1) d1 d (by rw [List.getElem?_eq_getElem hjl1, hd1]) (by rw [e1, List.getElem?_eq_getElem HJL.out, HD.out])
                  omega
                have HD1 := hide hd1
                have HJ1 := hide hjl1
                have hm0 : (0 : Int) ≤ ((j - 1 : Nat) : Int) := by omega
                have hm1 : ((j - 1 : Nat) : Int) < (dn : Int) := by omega
                have hwj : IntKind.i64.wrap ((j - 1 : Nat) : Int) = ((j - 1 : Nat) : Int) := IntWalk.i64_in _ (by omega)
                clear hd1
                go_upto_region 23 with (fail)
                refine wp_region_noPanic ?_
                refine wp_region_L (OZ w p A2 m2 c2 K ba ma lr bb mb ls (some ⟨bd, od, none⟩) DL) 31 hmx ?_
                have hdr := (Below.refl wr.heap.size wr).drew
                have hS61 : (OZ w p A2 m2 c2 K ba ma lr bb mb ls (some ⟨bd, od, none⟩) DL) wr.drew := hS.below hdr
                clear hdr hS
                generalize wr.drew = w61 at *
                refine wpAnyL_take (i := 0) (f0 := 33) (v := ?_) rfl (by decide +kernel) (by decide +kernel) (by decide +kernel) (by decide +kernel) (by decide +kernel) (fun _ _ _ h => h) (Or.inl ⟨by rfl, ?_⟩) hS61 ?_
                rotate_left
                · intro wS hS; go_simp; (try with_reducible rfl)
                simp only [Act.put, List.getElem_toArray, List.getElem_cons_zero, List.setIfInBounds_toArray, List.set_cons_succ, List.set_cons_zero]
                refine wpAnyL_take (i := 1) (f0 := 33) (v := ?_) rfl (by decide +kernel) (by decide +kernel) (by decide +kernel) (by decide +kernel) (by decide +kernel) (fun _ _ _ h => h) (Or.inl ⟨by rfl, ?_⟩) hS61 ?_
                rotate_left
                · intro wS hS; go_simp; (try with_reducible rfl)
                simp only [Act.put, List.getElem_toArray, List.getElem_cons_succ, List.getElem_cons_zero, List.setIfInBounds_toArray, List.set_cons_succ, List.set_cons_zero]
                refine wpAnyL_take (i := 2) (f0 := 33) (v := ?_) rfl (by decide +kernel) (by decide +kernel) (by decide +kernel) (by decide +kernel) (by decide +kernel) (fun _ _ _ h => h) (Or.inl ⟨by rfl, ?_⟩) hS61 ?_
                rotate_left
                · intro wS hS; go_simp; (try with_reducible rfl)
                simp only [Act.put, List.getElem_toArray, List.getElem_cons_succ, List.getElem_cons_zero, List.setIfInBounds_toArray, List.set_cons_succ, List.set_cons_zero]
                refine wpAnyL_take (i := 3) (f0 := 33) (v := ?_) rfl (by decide +kernel) (by decide +kernel) (by decide +kernel) (by decide +kernel) (by decide +kernel) (fun _ _ _ h => h) (Or.inl ⟨by rfl, ?_⟩) hS61 ?_
                rotate_left
                · intro wS hS; go_simp; (try with_reducible rfl)
                simp only [Act.put, List.getElem_toArray, List.getElem_cons_succ, List.getElem_cons_zero, List.setIfInBounds_toArray, List.set_cons_succ, List.set_cons_zero]
                refine wpAnyL_take (i := 4) (f0 := 33) (v := ?_) rfl (by decide +kernel) (by decide +kernel) (by decide +kernel) (by decide +kernel) (by decide +kernel) (fun _ _ _ h => h) (Or.inl ⟨by rfl, ?_⟩) hS61 ?_
                rotate_left
                · intro wS hS; go_simp; (try with_reducible rfl)
                simp only [Act.put, List.getElem_toArray, List.getElem_cons_succ, List.getElem_cons_zero, List.setIfInBounds_toArray, List.set_cons_succ, List.set_cons_zero]
                refine wpAnyL_take (i := 5) (f0 := 33) (v := ?_) rfl (by decide +kernel) (by decide +kernel) (by decide +kernel) (by decide +kernel) (by decide +kernel) (fun _ _ _ h => h) (Or.inl ⟨by rfl, ?_⟩) hS61 ?_
                rotate_left
                · intro wS hS; go_simp; (try with_reducible rfl)
                simp only [Act.put, List.getElem_toArray, List.getElem_cons_succ, List.getElem_cons_zero, List.setIfInBounds_toArray, List.set_cons_succ, List.set_cons_zero]
                refine wpAnyL_take (i := 6) (f0 := 33) (v := ?_) rfl (by decide +kernel) (by decide +kernel) (by decide +kernel) (by decide +kernel) (by decide +kernel) (fun _ _ _ h => h) (Or.inl ⟨by rfl, ?_⟩) hS61 ?_
                rotate_left
                · intro wS hS; have z0 := hS.z.cellz HJL.out d HD.out; go_simp; (try with_reducible rfl)
                simp only [Act.put, List.getElem_toArray, List.getElem_cons_succ, List.getElem_cons_zero, List.setIfInBounds_toArray, List.set_cons_succ, List.set_cons_zero]
                refine wpAnyL_take (i := 7) (f0 := 33) (v := ?_) rfl (by decide +kernel) (by decide +kernel) (by decide +kernel) (by decide +kernel) (by decide +kernel) (fun _ _ _ h => h) (Or.inl ⟨by rfl, ?_⟩) hS61 ?_
                rotate_left
                · intro wS hS; go_simp; (try with_reducible rfl)
                simp only [Act.put, List.getElem_toArray, List.getElem_cons_succ, List.getElem_cons_zero, List.setIfInBounds_toArray, List.set_cons_succ, List.set_cons_zero]
                refine wpAnyL_take (i := 8) (f0 := 33) (v := ?_) rfl (by decide +kernel) (by decide +kernel) (by decide +kernel) (by decide +kernel) (by decide +kernel) (fun _ _ _ h => h) (Or.inl ⟨by rfl, ?_⟩) hS61 ?_
                rotate_left
                · intro wS hS; go_simp; (try with_reducible rfl)
                simp only [Act.put, List.getElem_toArray, List.getElem_cons_succ, List.getElem_cons_zero, List.setIfInBounds_toArray, List.set_cons_succ, List.set_cons_zero]
                refine wpAnyL_take (i := 9) (f0 := 33) (v := ?_) rfl (by decide +kernel) (by decide +kernel) (by decide +kernel) (by decide +kernel) (by decide +kernel) (fun _ _ _ h => h) (Or.inl ⟨by rfl, ?_⟩) hS61 ?_
                rotate_left
                · intro wS hS; go_simp; (try with_reducible rfl)
                simp only [Act.put, List.getElem_toArray, List.getElem_cons_succ, List.getElem_cons_zero, List.setIfInBounds_toArray, List.set_cons_succ, List.set_cons_zero]
                refine wpAnyL_take (i := 10) (f0 := 33) (v := ?_) rfl (by decide +kernel) (by decide +kernel) (by decide +kernel) (by decide +kernel) (by decide +kernel) (fun _ _ _ h => h) (Or.inl ⟨by rfl, ?_⟩) hS61 ?_
                rotate_left
                · intro wS hS; go_simp; (try with_reducible rfl)
                simp only [Act.put, List.getElem_toArray, List.getElem_cons_succ, List.getElem_cons_zero, List.setIfInBounds_toArray, List.set_cons_succ, List.set_cons_zero]
                refine wpAnyL_take (i := 11) (f0 := 33) (v := ?_) rfl (by decide +kernel) (by decide +kernel) (by decide +kernel) (by decide +kernel) (by decide +kernel) (fun _ _ _ h => h) (Or.inl ⟨by rfl, ?_⟩) hS61 ?_
                rotate_left
                · intro wS hS; have z0 := hS.z.cellz HJ1.out d1 HD1.out; go_simp; (try with_reducible rfl)
                simp only [Act.put, List.getElem_toArray, List.getElem_cons_succ, List.getElem_cons_zero, List.setIfInBounds_toArray, List.set_cons_succ, List.set_cons_zero]
                refine wpAnyL_take (i := 12) (f0 := 33) (v := ?_) rfl (by decide +kernel) (by decide +kernel) (by decide +kernel) (by decide +kernel) (by decide +kernel) (fun _ _ _ h => h) (Or.inl ⟨by rfl, ?_⟩) hS61 ?_
                rotate_left
                · intro wS hS; go_simp; (try with_reducible rfl)
                simp only [Act.put, List.getElem_toArray, List.getElem_cons_succ, List.getElem_cons_zero, List.setIfInBounds_toArray, List.set_cons_succ, List.set_cons_zero]
                refine wpAnyL_take (i := 13) (f0 := 33) (v := ?_) rfl (by decide +kernel) (by decide +kernel) (by decide +kernel) (by decide +kernel) (by decide +kernel) (fun _ _ _ h => h) (Or.inl ⟨by rfl, ?_⟩) hS61 ?_
                rotate_left
                · intro wS hS; go_simp; (try with_reducible rfl)
                simp only [Act.put, List.getElem_toArray, List.getElem_cons_succ, List.getElem_cons_zero, List.setIfInBounds_toArray, List.set_cons_succ, List.set_cons_zero]
                refine wpAnyL_take (i := 14) (f0 := 33) (v := ?_) rfl (by decide +kernel) (by decide +kernel) (by decide +kernel) (by decide +kernel) (by decide +kernel) (fun _ _ _ h => h) (Or.inl ⟨by rfl, ?_⟩) hS61 ?_
                rotate_left
                · intro wS hS; go_simp; (try with_reducible rfl)
                simp only [Act.put, List.getElem_toArray, List.getElem_cons_succ, List.getElem_cons_zero, List.setIfInBounds_toArray, List.set_cons_succ, List.set_cons_zero]
                refine wpAnyL_take (i := 15) (f0 := 33) (v := ?_) rfl (by decide +kernel) (by decide +kernel) (by decide +kernel) (by decide +kernel) (by decide +kernel) (fun _ _ _ h => h) (Or.inl ⟨by rfl, ?_⟩) hS61 ?_
                rotate_left
                · intro wS hS; go_simp; (try with_reducible rfl)
                simp only [Act.put, List.getElem_toArray, List.getElem_cons_succ, List.getElem_cons_zero, List.setIfInBounds_toArray, List.set_cons_succ, List.set_cons_zero]
                refine wpAnyL_take (i := 16) (f0 := 33) (v := ?_) rfl (by decide +kernel) (by decide +kernel) (by decide +kernel) (by decide +kernel) (by decide +kernel) (fun _ _ _ h => h) (Or.inl ⟨by rfl, ?_⟩) hS61 ?_
                rotate_left
                · intro wS hS; go_simp; (try with_reducible rfl)
                simp only [Act.put, List.getElem_toArray, List.getElem_cons_succ, List.getElem_cons_zero, List.setIfInBounds_toArray, List.set_cons_succ, List.set_cons_zero]
                refine wpAnyL_take (i := 17) (f0 := 33) (v := ?_) rfl (by decide +kernel) (by decide +kernel) (by decide +kernel) (by decide +kernel) (by decide +kernel) (fun _ _ _ h => h) (Or.inl ⟨by rfl, ?_⟩) hS61 ?_
                rotate_left
                · intro wS hS; go_simp; (try with_reducible rfl)
                simp only [Act.put, List.getElem_toArray, List.getElem_cons_succ, List.getElem_cons_zero, List.setIfInBounds_toArray, List.set_cons_succ, List.set_cons_zero]
                refine wpAnyL_take (i := 18) (f0 := 33) (v := ?_) rfl (by decide +kernel) (by decide +kernel) (by decide +kernel) (by decide +kernel) (by decide +kernel) (fun _ _ _ h => h) (Or.inl ⟨by rfl, ?_⟩) hS61 ?_
                rotate_left
                · intro wS hS; go_simp; (try with_reducible rfl)
                simp only [Act.put, List.getElem_toArray, List.getElem_cons_succ, List.getElem_cons_zero, List.setIfInBounds_toArray, List.set_cons_succ, List.set_cons_zero]
                refine wpAnyL_take (i := 19) (f0 := 33) (v := ?_) rfl (by decide +kernel) (by decide +kernel) (by decide +kernel) (by decide +kernel) (by decide +kernel) (fun _ _ _ h => h) (Or.inl ⟨by rfl, ?_⟩) hS61 ?_
                rotate_left
                · intro wS hS; have z0 := hS.z.cellz HJL.out d HD.out; go_simp; (try with_reducible rfl)
                simp only [Act.put, List.getElem_toArray, List.getElem_cons_succ, List.getElem_cons_zero, List.setIfInBounds_toArray, List.set_cons_succ, List.set_cons_zero]
                refine wpAnyL_take (i := 20) (f0 := 33) (v := ?_) rfl (by decide +kernel) (by decide +kernel) (by decide +kernel) (by decide +kernel) (by decide +kernel) (fun _ _ _ h => h) (Or.inl ⟨by rfl, ?_⟩) hS61 ?_
                rotate_left
                · intro wS hS; obtain ⟨z0, z1, z2, z3, z4, z5, z6, z7, z8, z9⟩ := jCells10 hS.o.r1; go_simp; (try with_reducible rfl)
                simp only [Act.put, List.getElem_toArray, List.getElem_cons_succ, List.getElem_cons_zero, List.setIfInBounds_toArray, List.set_cons_succ, List.set_cons_zero]
                refine wpAnyL_take (i := 22) (f0 := 33) (v := ?_) rfl (by decide +kernel) (by decide +kernel) (by decide +kernel) (by decide +kernel) (by decide +kernel) (fun _ _ _ h => h) (Or.inl ⟨by rfl, ?_⟩) hS61 ?_
                rotate_left
                · intro wS hS; go_simp; (try with_reducible rfl)
                simp only [Act.put, List.getElem_toArray, List.getElem_cons_succ, List.getElem_cons_zero, List.setIfInBounds_toArray, List.set_cons_succ, List.set_cons_zero]
                refine wpAnyL_take (i := 23) (f0 := 33) (v := ?_) rfl (by decide +kernel) (by decide +kernel) (by decide +kernel) (by decide +kernel) (by decide +kernel) (fun _ _ _ h => h) (Or.inl ⟨by rfl, ?_⟩) hS61 ?_
                rotate_left
                · intro wS hS; go_simp; (try with_reducible rfl)
                simp only [Act.put, List.getElem_toArray, List.getElem_cons_succ, List.getElem_cons_zero, List.setIfInBounds_toArray, List.set_cons_succ, List.set_cons_zero]
                refine wpAnyL_take (i := 24) (f0 := 33) (v := ?_) rfl (by decide +kernel) (by decide +kernel) (by decide +kernel) (by decide +kernel) (by decide +kernel) (fun _ _ _ h => h) (Or.inl ⟨by rfl, ?_⟩) hS61 ?_
                rotate_left
                · intro wS hS; go_simp; (try with_reducible rfl)
                simp only [Act.put, List.getElem_toArray, List.getElem_cons_succ, List.getElem_cons_zero, List.setIfInBounds_toArray, List.set_cons_succ, List.set_cons_zero]
                refine wpAnyL_take (i := 25) (f0 := 33) (v := ?_) rfl (by decide +kernel) (by decide +kernel) (by decide +kernel) (by decide +kernel) (by decide +kernel) (fun _ _ _ h => h) (Or.inl ⟨by rfl, ?_⟩) hS61 ?_
                rotate_left
                · intro wS hS; go_simp; (try with_reducible rfl)
                simp only [Act.put, List.getElem_toArray, List.getElem_cons_succ, List.getElem_cons_zero, List.setIfInBounds_toArray, List.set_cons_succ, List.set_cons_zero]
                refine wpAnyL_take (i := 26) (f0 := 33) (v := ?_) rfl (by decide +kernel) (by decide +kernel) (by decide +kernel) (by decide +kernel) (by decide +kernel) (fun _ _ _ h => h) (Or.inl ⟨by rfl, ?_⟩) hS61 ?_
                rotate_left
                · intro wS hS; have z0 := hS.z.cellz HJL.out d HD.out; go_simp; (try with_reducible rfl)
                simp only [Act.put, List.getElem_toArray, List.getElem_cons_succ, List.getElem_cons_zero, List.setIfInBounds_toArray, List.set_cons_succ, List.set_cons_zero]
                refine wpAnyL_take (i := 27) (f0 := 33) (v := ?_) rfl (by decide +kernel) (by decide +kernel) (by decide +kernel) (by decide +kernel) (by decide +kernel) (fun _ _ _ h => h) (Or.inl ⟨by rfl, ?_⟩) hS61 ?_
                rotate_left
                · intro wS hS; obtain ⟨z0, z1, z2, z3, z4, z5, z6, z7, z8, z9⟩ := jCells10 hS.o.r1; go_simp; (try with_reducible rfl)
                simp only [Act.put, List.getElem_toArray, List.getElem_cons_succ, List.getElem_cons_zero, List.setIfInBounds_toArray, List.set_cons_succ, List.set_cons_zero]
                refine wpAnyL_one (i := 21) (by decide +kernel) (by rfl) (fun K9 hK => ?_)
                rw [if_pos (by rfl)]
                go_simp
                refine (pwas_of ba ma K lr d (by omega) (by omega) p A2 m2 c2 HM2.out (by omega) (fun s hs => Nat.le_trans (HPP.out s hs) (by decide)) HPZ.out w61 (he.next hS61.o.up) ((HP.out.below hS61.o.up).more hS61.o.up.size) hS61.o.ra E HE.out).mono ?_
                rintro e w62 ⟨rfl, hx62⟩
                have hS62 : (OZ w p A2 m2 c2 K ba ma lr bb mb ls (some ⟨bd, od, none⟩) DL) w62 := hS61.below hx62
                refine hK.out _ _ (Or.inr hS62) ?_
                clear hK K9 hS61 hx62
                try simp only [Act.put, List.getElem_toArray, List.getElem_cons_succ, List.getElem_cons_zero, List.setIfInBounds_toArray, List.set_cons_succ, List.set_cons_zero]
                refine wpAnyL_one (i := 28) (by decide +kernel) (by rfl) (fun K9 hK => ?_)
                rw [if_pos (by rfl)]
                go_simp
                refine (pwas_of bb mb K ls d (by omega) (by omega) p A2 m2 c2 HM2.out (by omega) (fun s hs => Nat.le_trans (HPP.out s hs) (by decide)) HPZ.out w62 (he.next hS62.o.up) ((HP.out.below hS62.o.up).more hS62.o.up.size) hS62.o.rb E HE2.out).mono ?_
                rintro e w63 ⟨rfl, hx63⟩
                have hS63 : (OZ w p A2 m2 c2 K ba ma lr bb mb ls (some ⟨bd, od, none⟩) DL) w63 := hS62.below hx63
                refine hK.out _ _ (Or.inr hS63) ?_
                clear hK K9 hS62 hx63
                try simp only [Act.put, List.getElem_toArray, List.getElem_cons_succ, List.getElem_cons_zero, List.setIfInBounds_toArray, List.set_cons_succ, List.set_cons_zero]
                refine wpAnyL_take (i := 29) (f0 := 33) (v := ?_) rfl (by decide +kernel) (by decide +kernel) (by decide +kernel) (by decide +kernel) (by decide +kernel) (fun _ _ _ h => h) (Or.inl ⟨by rfl, ?_⟩) hS63 ?_
                rotate_left
                · intro wS hS; go_simp; (try with_reducible rfl)
                simp only [Act.put, List.getElem_toArray, List.getElem_cons_succ, List.getElem_cons_zero, List.setIfInBounds_toArray, List.set_cons_succ, List.set_cons_zero]
                refine wpAnyL_take (i := 30) (f0 := 33) (v := ?_) rfl (by decide +kernel) (by decide +kernel) (by decide +kernel) (by decide +kernel) (by decide +kernel) (fun _ _ _ h => h) (Or.inl ⟨by rfl, ?_⟩) hS63 ?_
                rotate_left
                · intro wS hS; go_simp; (try with_reducible rfl)
                simp only [Act.put, List.getElem_toArray, List.getElem_cons_succ, List.getElem_cons_zero, List.setIfInBounds_toArray, List.set_cons_succ, List.set_cons_zero]
                refine wpAnyL_done (by decide +kernel) ?_ _
                refine NoPanic.normal ?_
                clear hne hjp hjm hlt1 hm0 hm1 hwj
                go_wp2
                go_roundw
                case rel => exact ⟨j + 1, by omega, by go_num, hS63⟩
                case measure => simp [intOf]; omega
              · have hjp : ¬ (0 : Int) < (j : Int) := by omega
                skip
                go_upto_region 23 with (fail)
                refine wp_region_noPanic ?_
                refine wp_region_L (OZ w p A2 m2 c2 K ba ma lr bb mb ls (some ⟨bd, od, none⟩) DL) 31 hmx ?_
                have hdr := (Below.refl wr.heap.size wr).drew
                have hS81 : (OZ w p A2 m2 c2 K ba ma lr bb mb ls (some ⟨bd, od, none⟩) DL) wr.drew := hS.below hdr
                clear hdr hS
                generalize wr.drew = w81 at *
                refine wpAnyL_take (i := 0) (f0 := 33) (v := ?_) rfl (by decide +kernel) (by decide +kernel) (by decide +kernel) (by decide +kernel) (by decide +kernel) (fun _ _ _ h => h) (Or.inl ⟨by rfl, ?_⟩) hS81 ?_
                rotate_left
                · intro wS hS; go_simp; (try with_reducible rfl)
                simp only [Act.put, List.getElem_toArray, List.getElem_cons_zero, List.setIfInBounds_toArray, List.set_cons_succ, List.set_cons_zero]
                refine wpAnyL_take (i := 1) (f0 := 33) (v := ?_) rfl (by decide +kernel) (by decide +kernel) (by decide +kernel) (by decide +kernel) (by decide +kernel) (fun _ _ _ h => h) (Or.inl ⟨by rfl, ?_⟩) hS81 ?_
                rotate_left
                · intro wS hS; go_simp; (try with_reducible rfl)
                simp only [Act.put, List.getElem_toArray, List.getElem_cons_succ, List.getElem_cons_zero, List.setIfInBounds_toArray, List.set_cons_succ, List.set_cons_zero]
                refine wpAnyL_take (i := 2) (f0 := 33) (v := ?_) rfl (by decide +kernel) (by decide +kernel) (by decide +kernel) (by decide +kernel) (by decide +kernel) (fun _ _ _ h => h) (Or.inl ⟨by rfl, ?_⟩) hS81 ?_
                rotate_left
                · intro wS hS; go_simp; (try with_reducible rfl)
                simp only [Act.put, List.getElem_toArray, List.getElem_cons_succ, List.getElem_cons_zero, List.setIfInBounds_toArray, List.set_cons_succ, List.set_cons_zero]
                refine wpAnyL_take (i := 3) (f0 := 33) (v := undef) rfl (by decide +kernel) (by decide +kernel) (by decide +kernel) (by decide +kernel) (by decide +kernel) (fun _ _ _ h => h) (Or.inr ⟨by rfl, rfl⟩) hS81 ?_
                simp only [Act.put, List.getElem_toArray, List.getElem_cons_succ, List.getElem_cons_zero, List.setIfInBounds_toArray, List.set_cons_succ, List.set_cons_zero]
                refine wpAnyL_take (i := 4) (f0 := 33) (v := undef) rfl (by decide +kernel) (by decide +kernel) (by decide +kernel) (by decide +kernel) (by decide +kernel) (fun _ _ _ h => h) (Or.inr ⟨by rfl, rfl⟩) hS81 ?_
                simp only [Act.put, List.getElem_toArray, List.getElem_cons_succ, List.getElem_cons_zero, List.setIfInBounds_toArray, List.set_cons_succ, List.set_cons_zero]
                refine wpAnyL_take (i := 5) (f0 := 33) (v := undef) rfl (by decide +kernel) (by decide +kernel) (by decide +kernel) (by decide +kernel) (by decide +kernel) (fun _ _ _ h => h) (Or.inr ⟨by rfl, rfl⟩) hS81 ?_
                simp only [Act.put, List.getElem_toArray, List.getElem_cons_succ, List.getElem_cons_zero, List.setIfInBounds_toArray, List.set_cons_succ, List.set_cons_zero]
                refine wpAnyL_take (i := 6) (f0 := 33) (v := undef) rfl (by decide +kernel) (by decide +kernel) (by decide +kernel) (by decide +kernel) (by decide +kernel) (fun _ _ _ h => h) (Or.inr ⟨by rfl, rfl⟩) hS81 ?_
                simp only [Act.put, List.getElem_toArray, List.getElem_cons_succ, List.getElem_cons_zero, List.setIfInBounds_toArray, List.set_cons_succ, List.set_cons_zero]
                refine wpAnyL_take (i := 7) (f0 := 33) (v := undef) rfl (by decide +kernel) (by decide +kernel) (by decide +kernel) (by decide +kernel) (by decide +kernel) (fun _ _ _ h => h) (Or.inr ⟨by rfl, rfl⟩) hS81 ?_
                simp only [Act.put, List.getElem_toArray, List.getElem_cons_succ, List.getElem_cons_zero, List.setIfInBounds_toArray, List.set_cons_succ, List.set_cons_zero]
                refine wpAnyL_take (i := 8) (f0 := 33) (v := undef) rfl (by decide +kernel) (by decide +kernel) (by decide +kernel) (by decide +kernel) (by decide +kernel) (fun _ _ _ h => h) (Or.inr ⟨by rfl, rfl⟩) hS81 ?_
                simp only [Act.put, List.getElem_toArray, List.getElem_cons_succ, List.getElem_cons_zero, List.setIfInBounds_toArray, List.set_cons_succ, List.set_cons_zero]
                refine wpAnyL_take (i := 9) (f0 := 33) (v := undef) rfl (by decide +kernel) (by decide +kernel) (by decide +kernel) (by decide +kernel) (by decide +kernel) (fun _ _ _ h => h) (Or.inr ⟨by rfl, rfl⟩) hS81 ?_
                simp only [Act.put, List.getElem_toArray, List.getElem_cons_succ, List.getElem_cons_zero, List.setIfInBounds_toArray, List.set_cons_succ, List.set_cons_zero]
                refine wpAnyL_take (i := 10) (f0 := 33) (v := undef) rfl (by decide +kernel) (by decide +kernel) (by decide +kernel) (by decide +kernel) (by decide +kernel) (fun _ _ _ h => h) (Or.inr ⟨by rfl, rfl⟩) hS81 ?_
                simp only [Act.put, List.getElem_toArray, List.getElem_cons_succ, List.getElem_cons_zero, List.setIfInBounds_toArray, List.set_cons_succ, List.set_cons_zero]
                refine wpAnyL_take (i := 11) (f0 := 33) (v := undef) rfl (by decide +kernel) (by decide +kernel) (by decide +kernel) (by decide +kernel) (by decide +kernel) (fun _ _ _ h => h) (Or.inr ⟨by rfl, rfl⟩) hS81 ?_
                simp only [Act.put, List.getElem_toArray, List.getElem_cons_succ, List.getElem_cons_zero, List.setIfInBounds_toArray, List.set_cons_succ, List.set_cons_zero]
                refine wpAnyL_take (i := 12) (f0 := 33) (v := undef) rfl (by decide +kernel) (by decide +kernel) (by decide +kernel) (by decide +kernel) (by decide +kernel) (fun _ _ _ h => h) (Or.inr ⟨by rfl, rfl⟩) hS81 ?_
                simp only [Act.put, List.getElem_toArray, List.getElem_cons_succ, List.getElem_cons_zero, List.setIfInBounds_toArray, List.set_cons_succ, List.set_cons_zero]
                refine wpAnyL_take (i := 13) (f0 := 33) (v := ?_) rfl (by decide +kernel) (by decide +kernel) (by decide +kernel) (by decide +kernel) (by decide +kernel) (fun _ _ _ h => h) (Or.inl ⟨by rfl, ?_⟩) hS81 ?_
                rotate_left
                · intro wS hS; go_simp; (try with_reducible rfl)
                simp only [Act.put, List.getElem_toArray, List.getElem_cons_succ, List.getElem_cons_zero, List.setIfInBounds_toArray, List.set_cons_succ, List.set_cons_zero]
                refine wpAnyL_take (i := 14) (f0 := 33) (v := ?_) rfl (by decide +kernel) (by decide +kernel) (by decide +kernel) (by decide +kernel) (by decide +kernel) (fun _ _ _ h => h) (Or.inl ⟨by rfl, ?_⟩) hS81 ?_
                rotate_left
                · intro wS hS; go_simp; (try with_reducible rfl)
                simp only [Act.put, List.getElem_toArray, List.getElem_cons_succ, List.getElem_cons_zero, List.setIfInBounds_toArray, List.set_cons_succ, List.set_cons_zero]
                refine wpAnyL_take (i := 15) (f0 := 33) (v := ?_) rfl (by decide +kernel) (by decide +kernel) (by decide +kernel) (by decide +kernel) (by decide +kernel) (fun _ _ _ h => h) (Or.inl ⟨by rfl, ?_⟩) hS81 ?_
                rotate_left
                · intro wS hS; go_simp; (try with_reducible rfl)
                simp only [Act.put, List.getElem_toArray, List.getElem_cons_succ, List.getElem_cons_zero, List.setIfInBounds_toArray, List.set_cons_succ, List.set_cons_zero]
                refine wpAnyL_take (i := 16) (f0 := 33) (v := ?_) rfl (by decide +kernel) (by decide +kernel) (by decide +kernel) (by decide +kernel) (by decide +kernel) (fun _ _ _ h => h) (Or.inl ⟨by rfl, ?_⟩) hS81 ?_
                rotate_left
                · intro wS hS; go_simp; (try with_reducible rfl)
                simp only [Act.put, List.getElem_toArray, List.getElem_cons_succ, List.getElem_cons_zero, List.setIfInBounds_toArray, List.set_cons_succ, List.set_cons_zero]
                refine wpAnyL_take (i := 17) (f0 := 33) (v := ?_) rfl (by decide +kernel) (by decide +kernel) (by decide +kernel) (by decide +kernel) (by decide +kernel) (fun _ _ _ h => h) (Or.inl ⟨by rfl, ?_⟩) hS81 ?_
                rotate_left
                · intro wS hS; go_simp; (try with_reducible rfl)
                simp only [Act.put, List.getElem_toArray, List.getElem_cons_succ, List.getElem_cons_zero, List.setIfInBounds_toArray, List.set_cons_succ, List.set_cons_zero]
                refine wpAnyL_take (i := 18) (f0 := 33) (v := ?_) rfl (by decide +kernel) (by decide +kernel) (by decide +kernel) (by decide +kernel) (by decide +kernel) (fun _ _ _ h => h) (Or.inl ⟨by rfl, ?_⟩) hS81 ?_
                rotate_left
                · intro wS hS; go_simp; (try with_reducible rfl)
                simp only [Act.put, List.getElem_toArray, List.getElem_cons_succ, List.getElem_cons_zero, List.setIfInBounds_toArray, List.set_cons_succ, List.set_cons_zero]
                refine wpAnyL_take (i := 19) (f0 := 33) (v := ?_) rfl (by decide +kernel) (by decide +kernel) (by decide +kernel) (by decide +kernel) (by decide +kernel) (fun _ _ _ h => h) (Or.inl ⟨by rfl, ?_⟩) hS81 ?_
                rotate_left
                · intro wS hS; have z0 := hS.z.cellz HJL.out d HD.out; go_simp; (try with_reducible rfl)
                simp only [Act.put, List.getElem_toArray, List.getElem_cons_succ, List.getElem_cons_zero, List.setIfInBounds_toArray, List.set_cons_succ, List.set_cons_zero]
                refine wpAnyL_take (i := 20) (f0 := 33) (v := ?_) rfl (by decide +kernel) (by decide +kernel) (by decide +kernel) (by decide +kernel) (by decide +kernel) (fun _ _ _ h => h) (Or.inl ⟨by rfl, ?_⟩) hS81 ?_
                rotate_left
                · intro wS hS; obtain ⟨z0, z1, z2, z3, z4, z5, z6, z7, z8, z9⟩ := jCells10 hS.o.r1; go_simp; (try with_reducible rfl)
                simp only [Act.put, List.getElem_toArray, List.getElem_cons_succ, List.getElem_cons_zero, List.setIfInBounds_toArray, List.set_cons_succ, List.set_cons_zero]
                refine wpAnyL_take (i := 22) (f0 := 33) (v := ?_) rfl (by decide +kernel) (by decide +kernel) (by decide +kernel) (by decide +kernel) (by decide +kernel) (fun _ _ _ h => h) (Or.inl ⟨by rfl, ?_⟩) hS81 ?_
                rotate_left
                · intro wS hS; go_simp; (try with_reducible rfl)
                simp only [Act.put, List.getElem_toArray, List.getElem_cons_succ, List.getElem_cons_zero, List.setIfInBounds_toArray, List.set_cons_succ, List.set_cons_zero]
                refine wpAnyL_take (i := 23) (f0 := 33) (v := ?_) rfl (by decide +kernel) (by decide +kernel) (by decide +kernel) (by decide +kernel) (by decide +kernel) (fun _ _ _ h => h) (Or.inl ⟨by rfl, ?_⟩) hS81 ?_
                rotate_left
                · intro wS hS; go_simp; (try with_reducible rfl)
                simp only [Act.put, List.getElem_toArray, List.getElem_cons_succ, List.getElem_cons_zero, List.setIfInBounds_toArray, List.set_cons_succ, List.set_cons_zero]
                refine wpAnyL_take (i := 24) (f0 := 33) (v := ?_) rfl (by decide +kernel) (by decide +kernel) (by decide +kernel) (by decide +kernel) (by decide +kernel) (fun _ _ _ h => h) (Or.inl ⟨by rfl, ?_⟩) hS81 ?_
                rotate_left
                · intro wS hS; go_simp; (try with_reducible rfl)
                simp only [Act.put, List.getElem_toArray, List.getElem_cons_succ, List.getElem_cons_zero, List.setIfInBounds_toArray, List.set_cons_succ, List.set_cons_zero]
                refine wpAnyL_take (i := 25) (f0 := 33) (v := ?_) rfl (by decide +kernel) (by decide +kernel) (by decide +kernel) (by decide +kernel) (by decide +kernel) (fun _ _ _ h => h) (Or.inl ⟨by rfl, ?_⟩) hS81 ?_
                rotate_left
                · intro wS hS; go_simp; (try with_reducible rfl)
                simp only [Act.put, List.getElem_toArray, List.getElem_cons_succ, List.getElem_cons_zero, List.setIfInBounds_toArray, List.set_cons_succ, List.set_cons_zero]
                refine wpAnyL_take (i := 26) (f0 := 33) (v := ?_) rfl (by decide +kernel) (by decide +kernel) (by decide +kernel) (by decide +kernel) (by decide +kernel) (fun _ _ _ h => h) (Or.inl ⟨by rfl, ?_⟩) hS81 ?_
                rotate_left
                · intro wS hS; have z0 := hS.z.cellz HJL.out d HD.out; go_simp; (try with_reducible rfl)
                simp only [Act.put, List.getElem_toArray, List.getElem_cons_succ, List.getElem_cons_zero, List.setIfInBounds_toArray, List.set_cons_succ, List.set_cons_zero]
                refine wpAnyL_take (i := 27) (f0 := 33) (v := ?_) rfl (by decide +kernel) (by decide +kernel) (by decide +kernel) (by decide +kernel) (by decide +kernel) (fun _ _ _ h => h) (Or.inl ⟨by rfl, ?_⟩) hS81 ?_
                rotate_left
                · intro wS hS; obtain ⟨z0, z1, z2, z3, z4, z5, z6, z7, z8, z9⟩ := jCells10 hS.o.r1; go_simp; (try with_reducible rfl)
                simp only [Act.put, List.getElem_toArray, List.getElem_cons_succ, List.getElem_cons_zero, List.setIfInBounds_toArray, List.set_cons_succ, List.set_cons_zero]
                refine wpAnyL_one (i := 21) (by decide +kernel) (by rfl) (fun K9 hK => ?_)
                rw [if_pos (by rfl)]
                go_simp
                refine (pwas_of ba ma K lr d (by omega) (by omega) p A2 m2 c2 HM2.out (by omega) (fun s hs => Nat.le_trans (HPP.out s hs) (by decide)) HPZ.out w81 (he.next hS81.o.up) ((HP.out.below hS81.o.up).more hS81.o.up.size) hS81.o.ra E HE.out).mono ?_
                rintro e w82 ⟨rfl, hx82⟩
                have hS82 : (OZ w p A2 m2 c2 K ba ma lr bb mb ls (some ⟨bd, od, none⟩) DL) w82 := hS81.below hx82
                refine hK.out _ _ (Or.inr hS82) ?_
                clear hK K9 hS81 hx82
                try simp only [Act.put, List.getElem_toArray, List.getElem_cons_succ, List.getElem_cons_zero, List.setIfInBounds_toArray, List.set_cons_succ, List.set_cons_zero]
                refine wpAnyL_one (i := 28) (by decide +kernel) (by rfl) (fun K9 hK => ?_)
                rw [if_pos (by rfl)]
                go_simp
                refine (pwas_of bb mb K ls d (by omega) (by omega) p A2 m2 c2 HM2.out (by omega) (fun s hs => Nat.le_trans (HPP.out s hs) (by decide)) HPZ.out w82 (he.next hS82.o.up) ((HP.out.below hS82.o.up).more hS82.o.up.size) hS82.o.rb E HE2.out).mono ?_
                rintro e w83 ⟨rfl, hx83⟩
                have hS83 : (OZ w p A2 m2 c2 K ba ma lr bb mb ls (some ⟨bd, od, none⟩) DL) w83 := hS82.below hx83
                refine hK.out _ _ (Or.inr hS83) ?_
                clear hK K9 hS82 hx83
                try simp only [Act.put, List.getElem_toArray, List.getElem_cons_succ, List.getElem_cons_zero, List.setIfInBounds_toArray, List.set_cons_succ, List.set_cons_zero]
                refine wpAnyL_take (i := 29) (f0 := 33) (v := ?_) rfl (by decide +kernel) (by decide +kernel) (by decide +kernel) (by decide +kernel) (by decide +kernel) (fun _ _ _ h => h) (Or.inl ⟨by rfl, ?_⟩) hS83 ?_
                rotate_left
                · intro wS hS; go_simp; (try with_reducible rfl)
                simp only [Act.put, List.getElem_toArray, List.getElem_cons_succ, List.getElem_cons_zero, List.setIfInBounds_toArray, List.set_cons_succ, List.set_cons_zero]
                refine wpAnyL_take (i := 30) (f0 := 33) (v := ?_) rfl (by decide +kernel) (by decide +kernel) (by decide +kernel) (by decide +kernel) (by decide +kernel) (fun _ _ _ h => h) (Or.inl ⟨by rfl, ?_⟩) hS83 ?_
                rotate_left
                · intro wS hS; go_simp; (try with_reducible rfl)
                simp only [Act.put, List.getElem_toArray, List.getElem_cons_succ, List.getElem_cons_zero, List.setIfInBounds_toArray, List.set_cons_succ, List.set_cons_zero]
                refine wpAnyL_done (by decide +kernel) ?_ _
                refine NoPanic.normal ?_
                clear hne hjp
                go_wp2
                go_roundw
                case rel => exact ⟨j + 1, by omega, by go_num, hS83⟩
                case measure => simp [intOf]; omega
            · obtain rfl : dn = j := by omega
              go_wp2
              go_ret
              exact ⟨rfl, hS.o.up⟩
end Go.Proofs.YtobhpeockinnjaaGreatDoor
/- Lists of things told that came in, opened. No conditions. -/
namespace Go.Proofs.YtobhpeockinnjaaGreatDoor
open Go Go.RowKit Go.ChangeShapes Go.WideShapes Go.ChangeAt Go.WideMaps Go.WideElems Go.Joins Go.Deep
variable {H : Type} {enc : TypeId × Value → H}
set_option maxRecDepth 100000 in
/-- A slice of things told that came in. -/
theorem field_tolds {W : World} {v : Value} {n : Nat} {y : DataW H × List MemPlace} (hf : DataW.trod enc Tryz.prog W 0 (fun _ => true) true n 30 [v] = some y) :
    ∃ (A : Option Addr) (c : Nat) (l : List Td), v = .slice A l.length c ∧ l.length ≤ 9223372036854775807 ∧ (∀ x ∈ l, TdW x) ∧ Tds W W.heap.size A l ∧ l.length ≤ c := by
  rcases open_slice Tryz.underlying30 hf with ⟨hcs, _⟩ | ⟨a, len, cap, m, k, D, Pl, hcs, _, hl, hm, hmm, _, hi⟩
  · simp only [List.cons.injEq, and_true] at hcs
    subst hcs
    exact ⟨none, 0, [], rfl, by simp, by simp, ⟨fun h => by simp at h⟩, by simp⟩
  · simp only [List.cons.injEq, and_true] at hcs
    subst hcs
    simp only [if_true] at hmm
    unfold maxLen at hm
    rw [cTold] at hi
    have h1 : ∀ i, ∃ v : Td, i < len → TdW v ∧ ∀ (j : Nat) (u : Value), (tdV v)[j]? = some u → W.cell? ((a.add (i * 4)).add j) = some u := fun i => by
      by_cases hil : i < len
      · obtain ⟨cs', hc, ht⟩ := hi i (by omega)
        obtain ⟨v, hcs, hw⟩ := trod_told ht
        obtain ⟨_, hcl, hat⟩ := World.cells?_some hc
        refine ⟨v, fun _ => ⟨hw, fun j u hj => ?_⟩⟩
        have hj4 : j < 4 := (List.getElem?_eq_some_iff.1 hj).1
        rw [hat j hj4, hcs]
        exact hj
      · exact ⟨⟨0, 0, ⟨#[]⟩, false⟩, fun h => absurd h hil⟩
    obtain ⟨f, hfv⟩ := Classical.axiomOfChoice h1
    have hlen : ((List.range len).map f).length = len := by rw [List.length_map, List.length_range]
    refine ⟨some a, cap, (List.range len).map f, by rw [hlen], by rw [hlen]; omega, fun v hv => ?_, ⟨fun h0 => ?_⟩, by rw [hlen]; exact hl⟩
    · obtain ⟨i, hir, rfl⟩ := List.mem_map.1 hv
      exact (hfv i (List.mem_range.1 hir)).1
    · rw [hlen] at h0
      obtain ⟨_, hc0⟩ := hfv 0 h0
      have h00 : (a.add (0 * 4)).add 0 = a := by unfold Addr.add; simp
      obtain ⟨e, hb⟩ := addr_of_cell (h00 ▸ hc0 0 _ rfl)
      refine ⟨a.block, a.off, by rw [← e], hb, fun j v hj i u hu => ?_⟩
      have hjl : j < len := by
        have := (List.getElem?_eq_some_iff.1 hj).1
        rw [hlen] at this; exact this
      rw [List.getElem?_map, List.getElem?_range hjl] at hj
      obtain rfl : f j = v := by simpa using hj
      obtain ⟨_, hc⟩ := hfv j hjl
      have e2 : (a.add (j * 4)).add i = ⟨a.block, a.off + j * 4 + i, none⟩ := by
        rw [e]
        rw [add_plain, add_plain]
      rw [← e2]
      exact hc i u hu
set_option maxRecDepth 100000 in
theorem open_tolds {W : World} {v : Value} {d : DataW H} {p : List MemPlace} {base : Nat} (hv : Value.okWide Tryz.prog W .any base 30 v) (h : DataW.Trod enc Tryz.prog W 0 (fun _ => true) true 30 v d p) :
    ∃ (A : Option Addr) (c : Nat) (l : List Td), v = .slice A l.length c ∧ l.length ≤ 9223372036854775807 ∧ (∀ x ∈ l, TdW x) ∧ Tds W W.heap.size A l ∧ l.length ≤ c := by
  obtain ⟨a0, len, cap, rfl⟩ := okWide_slice Tryz.underlying30 hv
  obtain ⟨fuel, hf⟩ := h
  exact field_tolds (by simpa [Value.cells] using hf)
end Go.Proofs.YtobhpeockinnjaaGreatDoor
/- Proofs that came in, opened. No conditions. -/
namespace Go.Proofs.YtobhpeockinnjaaGreatDoor
open Go Go.RowKit Go.ChangeShapes Go.WideShapes Go.ChangeAt Go.WideMaps Go.WideElems Go.Joins Go.Deep
variable {H : Type} {enc : TypeId × Value → H}
/-- What a proof that came in is like. -/
structure PfW (p : Pf) : Prop where
  c0 : -9223372036854775808 ≤ p.count
  c1 : p.count ≤ 9223372036854775807
  i0 : -9223372036854775808 ≤ p.idx
  i1 : p.idx ≤ 9223372036854775807
  tw : ItW p.it
  pl : p.path.length ≤ 9223372036854775807
  ps : ∀ s ∈ p.path, s.size ≤ 9223372036854775807
  sum : p.it.id.size + p.it.parent.size + p.it.number.size ≤ 9223372036854775807
set_option maxRecDepth 100000 in
/-- An item that came in has texts within reach. -/
theorem item_sized {W : World} {k : Nat} {v : Dg.It} {x : DataW H × List MemPlace} (h : DataW.trod enc Tryz.prog W 0 (fun _ => true) true k 26 (itV v).toList = some x)
    (hsz : ∀ n ∈ x.1.weights Tryz.prog 26, n ≤ reachBytes) : v.id.size ≤ 140737488351232 ∧ v.parent.size ≤ 140737488351232 ∧ v.number.size ≤ 140737488351232 := by
  obtain ⟨xs, n, _, hx, _, hxl, hf⟩ := DataW.trod_struct Tryz.underlying26 h
  match xs, hxl, hx with
  | [y0, y1, y2, y3, y4, y5, y6], _, hx =>
    have f1 : DataW.trod enc Tryz.prog W 0 (fun _ => true) true n 9 [.string v.id] = some y1 := by simpa [cellsStr, itV] using hf 1 _ rfl
    have f2 : DataW.trod enc Tryz.prog W 0 (fun _ => true) true n 9 [.string v.parent] = some y2 := by simpa [cellsStr, itV] using hf 2 _ rfl
    have f3 : DataW.trod enc Tryz.prog W 0 (fun _ => true) true n 9 [.string v.number] = some y3 := by simpa [cellsStr, itV] using hf 3 _ rfl
    obtain ⟨b1, e1, g1, _⟩ := DataW.trod_string Tryz.underlying9 f1
    obtain ⟨b2, e2, g2, _⟩ := DataW.trod_string Tryz.underlying9 f2
    obtain ⟨b3, e3, g3, _⟩ := DataW.trod_string Tryz.underlying9 f3
    simp only [List.cons.injEq, and_true, Value.string.injEq] at e1 e2 e3
    subst e1 e2 e3
    have hd : x.1 = .agg [y0.1, y1.1, y2.1, y3.1, y4.1, y5.1, y6.1] := congrArg Prod.fst hx
    have m1 : v.id.data.toList.length ∈ x.1.weights Tryz.prog 26 := by
      rw [hd, g1]
      simp only [DataW.weights, Tryz.underlying26, DataW.weightsEach, List.map_cons, List.map_nil, List.mem_append, List.mem_cons, true_or, or_true]
    have m2 : v.parent.data.toList.length ∈ x.1.weights Tryz.prog 26 := by
      rw [hd, g2]
      simp only [DataW.weights, Tryz.underlying26, DataW.weightsEach, List.map_cons, List.map_nil, List.mem_append, List.mem_cons, true_or, or_true]
    have m3 : v.number.data.toList.length ∈ x.1.weights Tryz.prog 26 := by
      rw [hd, g3]
      simp only [DataW.weights, Tryz.underlying26, DataW.weightsEach, List.map_cons, List.map_nil, List.mem_append, List.mem_cons, true_or, or_true]
    have q1 := hsz _ m1
    have q2 := hsz _ m2
    have q3 := hsz _ m3
    unfold reachBytes at q1 q2 q3
    rw [Array.length_toList] at q1 q2 q3
    exact ⟨q1, q2, q3⟩
theorem cPath : Tryz.prog.cellsOf 27 = 1 := by kernel_rfl
set_option maxRecDepth 100000 in
theorem open_proof {W : World} {v : Value} {d : DataW H} {pl : List MemPlace} {base : Nat} (hv : Value.okWide Tryz.prog W .any base 29 v) (h : DataW.Trod enc Tryz.prog W 0 (fun _ => true) true 29 v d pl)
    (hsz : ∀ x ∈ d.weights Tryz.prog 29, x ≤ reachBytes) :
    ∃ (p : Pf) (A : Option Addr) (c : Nat), v = .agg #[.int .i64 p.count, .int .i64 p.idx, .int .i64 p.it.kind, .string p.it.id, .string p.it.parent, .string p.it.number, .string p.it.north, .string p.it.south, .bool p.it.gone, .slice A p.path.length c] ∧ PfW p ∧ Strs W W.heap.size A p.path ∧ p.path.length ≤ c := by
  obtain ⟨cs, rfl, hcz⟩ := okWide_struct Tryz.underlying29 hv
  obtain ⟨l⟩ := cs
  match l, hcz.trans cProof with
  | [c0, c1, c2, c3, c4, c5, c6, c7, c8, c9], _ =>
    obtain ⟨fuel, hf0⟩ := h
    obtain ⟨xs, n, _, hx, _, hxl, hf⟩ := DataW.trod_struct Tryz.underlying29 hf0
    match xs, hxl, hx with
    | [y0, y1, y2, y3], _, hx =>
      have f0 : DataW.trod enc Tryz.prog W 0 (fun _ => true) true n 3 [c0] = some y0 := by simpa [Value.cells, cIntC] using hf 0 _ rfl
      have f1 : DataW.trod enc Tryz.prog W 0 (fun _ => true) true n 3 [c1] = some y1 := by simpa [Value.cells, cIntC] using hf 1 _ rfl
      have f2 : DataW.trod enc Tryz.prog W 0 (fun _ => true) true n 26 [c2, c3, c4, c5, c6, c7, c8] = some y2 := by simpa [Value.cells, cItem] using hf 2 _ rfl
      have f3 : DataW.trod enc Tryz.prog W 0 (fun _ => true) true n 27 [c9] = some y3 := by simpa [Value.cells, cPath] using hf 3 _ rfl
      obtain ⟨m, e0, _, w0⟩ := DataW.trod_int Tryz.underlying3 f0
      obtain ⟨m', e1, _, w1⟩ := DataW.trod_int Tryz.underlying3 f1
      obtain ⟨t, e2, wt⟩ := trod_item f2
      rw [e2] at f2
      have hd : d = .agg [y0.1, y1.1, y2.1, y3.1] := congrArg Prod.fst hx
      obtain ⟨z1, z2, z3⟩ := item_sized f2 (fun n hn => hsz n (by
        rw [hd]
        simp only [DataW.weights, Tryz.underlying29, DataW.weightsEach, List.map_cons, List.map_nil, List.mem_append]
        exact Or.inr (Or.inr (Or.inl hn))))
      obtain ⟨A, c, q, rfl, a1, a2, a3, a4⟩ := field_strs f3
      unfold itV at e2
      simp only [List.cons.injEq, and_true] at e0 e1 e2
      obtain ⟨rfl, rfl, rfl, rfl, rfl, rfl, rfl⟩ := e2
      subst e0 e1
      obtain ⟨m0, m1⟩ := bounds_i64 w0
      obtain ⟨k0, k1⟩ := bounds_i64 w1
      exact ⟨⟨m, m', t, q⟩, A, c, rfl, ⟨m0, m1, k0, k1, wt, a1, a2, by show t.id.size + t.parent.size + t.number.size ≤ _; omega⟩, a3, a4⟩
end Go.Proofs.YtobhpeockinnjaaGreatDoor

