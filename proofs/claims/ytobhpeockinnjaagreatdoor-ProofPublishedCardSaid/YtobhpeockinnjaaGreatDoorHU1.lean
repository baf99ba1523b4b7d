/- Walks and laws of this seat, several texts in one: P31, P33, P35. No conditions but those that each theorem states. -/
import Derived.Test.YtobhpeockinnjaaGreatDoorHO1
/- The first things told of each day: a map in memory; the law ProofPublished in plain Lean. No conditions but those that each theorem states. -/
namespace Go.Proofs.YtobhpeockinnjaaGreatDoor
open Go Go.RowKit Go.Sort Go.Maps
def mkTd (x : Td) : Value := .agg #[.int .i64 x.day, .int .i64 x.count, .string x.root, .bool x.wrong]
def tdD (x : Td) : DataW Unit := .agg [.lit (.int .i64 x.day), .lit (.int .i64 x.count), .lit (.string x.root.data.toList), .lit (.bool x.wrong)]
noncomputable def rTd : Value → Option (DataW Unit × List MemPlace)
  | .agg ⟨[.int .i64 a, .int .i64 b, .string s, .bool c]⟩ => some (.agg [.lit (.int .i64 a), .lit (.int .i64 b), .lit (.string s.data.toList), .lit (.bool c)], [])
  | _ => none
theorem rTd_mk (x : Td) : rTd (mkTd x) = some (tdD x, []) := rfl
theorem rTd_inv {v : Value} {x : Td} {ps : List MemPlace} (h : rTd v = some (tdD x, ps)) : v = mkTd x := by
  unfold rTd at h
  split at h
  · rename_i a b s c
    obtain ⟨xd, xc, xr, xw⟩ := x
    unfold tdD at h
    simp only [Option.some.injEq, Prod.mk.injEq, DataW.agg.injEq, List.cons.injEq, DataW.lit.injEq, Lit.int.injEq, Lit.string.injEq, Lit.bool.injEq, true_and, and_true] at h
    obtain ⟨⟨rfl, rfl, h3, rfl⟩, _⟩ := h
    obtain ⟨⟨d⟩⟩ := s
    obtain ⟨⟨d'⟩⟩ := xr
    cases h3
    rfl
  · cases h
noncomputable def firstD : List Td → DataW Unit
  | [] => .map []
  | x :: l => (firstD l).put (.int .i64 x.day) (tdD x)
def foundT : List Td → Int → Option Td
  | [], _ => none
  | x :: l, k => if x.day = k then some x else foundT l k
theorem firstD_isMap : ∀ l, IsMap (firstD l)
  | [] => isMap_empty
  | _ :: l => (firstD_isMap l).put _ _
theorem firstD_tidy : ∀ l, Tidy (firstD l)
  | [] => tidy_empty
  | _ :: l => (firstD_tidy l).put (by trivial) _
theorem firstD_has (k : Int) : ∀ l, Maps.has (firstD l) (.int .i64 k) = (foundT l k).isSome
  | [] => rfl
  | x :: l => by
    by_cases h : x.day = k
    · subst h
      rw [firstD, Maps.has_put_same (firstD_isMap l) (by trivial), foundT, if_pos rfl]; rfl
    · rw [firstD, Maps.has_put_other (fun e => h (by injection e with _ e; exact e.symm)), firstD_has k l, foundT, if_neg h]
theorem firstD_at (k : Int) (zd : DataW Unit) : ∀ l, (firstD l).atKey (.int .i64 k) zd = match foundT l k with | some x => tdD x | none => zd
  | [] => rfl
  | x :: l => by
    by_cases h : x.day = k
    · subst h
      rw [firstD, atKey_put_same (firstD_isMap l) (by trivial), foundT, if_pos rfl]
    · rw [firstD, atKey_put_other (fun e => h (by injection e with _ e; exact e.symm)), firstD_at k zd l, foundT, if_neg h]
def noTd : Td := ⟨0, 0, ⟨#[]⟩, false⟩
set_option maxRecDepth 100000 in
theorem first_look {W : World} {mb N : Nat} {l : List Td} (h : W.ownsMap Tryz.prog 3 rTd mb N (firstD l)) (d : Int) (m0 : -9223372036854775808 ≤ d) (m1 : d ≤ 9223372036854775807) :
    (∀ x, foundT l d = some x → (Instr.lookup 64 (.map (some mb)) (.int .i64 d) true).run Tryz.prog W = .ok (.tuple #[.agg #[.int .i64 x.day, .int .i64 x.count, .string x.root, .bool x.wrong], .bool true]) W) ∧
    (foundT l d = none → (Instr.lookup 64 (.map (some mb)) (.int .i64 d) true).run Tryz.prog W = .ok (.tuple #[.agg #[.int .i64 0, .int .i64 0, .string ⟨#[]⟩, .bool false], .bool false]) W) := by
  obtain ⟨v, ps, hrun, hv⟩ := h.look_ok lawIntP Tryz.underlying64 (z := mkTd noTd) (by kernel_rfl) (zd := tdD noTd) (zp := []) rfl (key_intP d m0 m1)
  rw [firstD_has] at hrun
  rw [firstD_at] at hv
  constructor
  · intro x hf
    rw [hf] at hrun hv
    rw [rTd_inv hv] at hrun
    exact hrun
  · intro hf
    rw [hf] at hrun hv
    rw [rTd_inv hv] at hrun
    exact hrun
/-- The first things told and what the reader knows. -/
structure PubI (F : List Td) (lr : List Dy) : Prop where
  eq : ∀ k, foundD lr k = (foundT F k).map fun t => (t.count, t.root)
  size : Maps.size (firstD F) = Maps.size (daysD lr)
theorem PubI.nil : PubI [] [] := ⟨fun _ => rfl, rfl⟩
theorem PubI.new {F : List Td} {lr : List Dy} (h : PubI F lr) (x : Td) (hf : foundT F x.day = none) : PubI (x :: F) ((x.day, x.count, x.root) :: lr) := by
  have hd : foundD lr x.day = none := by rw [h.eq, hf]; rfl
  refine ⟨fun k => ?_, ?_⟩
  · rw [foundD, foundT]
    by_cases hk : x.day = k
    · rw [if_pos hk, if_pos hk]; rfl
    · rw [if_neg hk, if_neg hk, h.eq]
  · rw [firstD, daysD, size_put (firstD_tidy F), size_put (daysD_tidy lr), firstD_has, daysD_has, hf, hd, h.size]
    rfl
theorem PubI.again {F : List Td} {lr : List Dy} (h : PubI F lr) (x t : Td) (hf : foundT F x.day = some t) (hc : t.count = x.count) (hr : t.root = x.root) : PubI F ((x.day, x.count, x.root) :: lr) := by
  have hd : foundD lr x.day = some (x.count, x.root) := by rw [h.eq, hf, ← hc, ← hr]; rfl
  refine ⟨fun k => ?_, ?_⟩
  · rw [foundD]
    by_cases hk : x.day = k
    · rw [if_pos hk, ← hk, hf, ← hc, ← hr]; rfl
    · rw [if_neg hk, h.eq]
  · rw [daysD, size_put (daysD_tidy lr), daysD_has, hd, h.size]
    rfl
theorem PubI.found {F : List Td} {lr : List Dy} (h : PubI F lr) {k : Int} {t : Td} (hf : foundT F k = some t) : foundD lr k = some (t.count, t.root) := by rw [h.eq, hf]; rfl
theorem PubI.none {F : List Td} {lr : List Dy} (h : PubI F lr) {k : Int} (hf : foundT F k = none) : foundD lr k = none := by rw [h.eq, hf]; rfl
theorem foundT_day {F : List Td} {k : Int} {t : Td} (h : foundT F k = some t) : t ∈ F ∧ t.day = k := by
  induction F with
  | nil => cases h
  | cons x l ih =>
    rw [foundT] at h
    by_cases hk : x.day = k
    · rw [if_pos hk] at h
      injection h with h
      subst h
      exact ⟨List.mem_cons_self .., hk⟩
    · rw [if_neg hk] at h
      exact ⟨List.mem_cons_of_mem _ (ih h).1, (ih h).2⟩
end Go.Proofs.YtobhpeockinnjaaGreatDoor
/- What is learnt of one thing told, against the first ones; the law ProofPublished in plain Lean. No conditions but those that each theorem states. -/
namespace Go.Proofs.YtobhpeockinnjaaGreatDoor
open Go Go.RowKit Go.Sort Go.Maps
theorem learn_pub {F : List Td} {lr : List Dy} (h : PubI F lr) (x : Td) {V : Bool} {E : Int} {D : List Dy} (hE : learnE lr V x.day x.count x.root = (E, D)) {E2 : Int} {D2 : List Dy} (h2 : learnE [] V x.day x.count x.root = (E2, D2)) :
    (E ≠ 0 ∧ E ≠ 23 ∧ E2 ≠ 0 ∧ PubI F D) ∨
    (E2 = 0 ∧ E = 0 ∧ foundT F x.day = none ∧ PubI (x :: F) D) ∨
    (E2 = 0 ∧ E = 0 ∧ (∃ t, foundT F x.day = some t ∧ t.root = x.root ∧ t.count = x.count) ∧ PubI F D) ∨
    (E2 = 0 ∧ E = 23 ∧ (∃ t, foundT F x.day = some t ∧ ¬ (t.root = x.root ∧ t.count = x.count)) ∧ PubI F D) := by
  by_cases hb : learnBad x.day x.count x.root
  · rw [learnE_bad hb] at hE h2
    injection hE with e1 e2
    injection h2 with e3 e4
    subst e1 e2 e3
    exact Or.inl ⟨by decide, by decide, by decide, h⟩
  cases V with
  | false =>
    rw [learnE_key hb] at hE h2
    injection hE with e1 e2
    injection h2 with e3 e4
    subst e1 e2 e3
    exact Or.inl ⟨by decide, by decide, by decide, h⟩
  | true =>
    rw [learnE_new hb rfl] at h2
    injection h2 with e3 e4
    subst e3
    right
    cases hf : foundT F x.day with
    | none =>
      rw [learnE_new hb (h.none hf)] at hE
      injection hE with e1 e2
      subst e1 e2
      exact Or.inl ⟨rfl, rfl, rfl, h.new x hf⟩
    | some t =>
      right
      by_cases hs : t.root = x.root ∧ t.count = x.count
      · rw [learnE_same hb (by rw [h.found hf, hs.1, hs.2])] at hE
        injection hE with e1 e2
        subst e1 e2
        exact Or.inl ⟨rfl, rfl, ⟨t, rfl, hs⟩, h.again x t hf hs.2 hs.1⟩
      · rw [learnE_fork hb (h.found hf) (fun e => hs ⟨e.2, e.1⟩)] at hE
        injection hE with e1 e2
        subst e1 e2
        exact Or.inr ⟨rfl, rfl, ⟨t, rfl, hs⟩, h⟩
theorem was_none {F : List Td} {lr : List Dy} (h : PubI F lr) {d : Int} (p : Pf) (hf : foundT F d = none) : wasE lr d p = 11 := by
  unfold wasE; rw [h.none hf]
theorem was_some {F : List Td} {lr : List Dy} (h : PubI F lr) {d : Int} {t : Td} (p : Pf) (hf : foundT F d = some t) : wasE lr d p = if t.count = p.count ∧ checkP t.root p = true then 0 else 21 := by
  unfold wasE; rw [h.found hf]
theorem pub_days {F : List Td} {lr : List Dy} (h : PubI F lr) : (daysS lr).length = Maps.size (firstD F) := by rw [daysS_len, h.size]
end Go.Proofs.YtobhpeockinnjaaGreatDoor
/- The law ProofPublished. No conditions but those that each theorem states. -/
namespace Go.Proofs.YtobhpeockinnjaaGreatDoor
open Go Go.RowKit Go.Sort Go.Maps
attribute [local go_sem] Oper.semAt_some
/-- Blocks that lie apart: the proof's variable, the reader's and its map's, the map of the first things. -/
structure Aq (g ba ma mf : Nat) : Prop where
  ga : g < ma
  gf : g < mf
  gb : g < ba
  ab : ba ≠ mf
  mm : ma ≠ mf
  bm : ba ≠ ma
/-- What the law holds: the proof in its variable, a reader, the first things told. -/
structure PO (w0 : World) (p : Pf) (A2 : Option Addr) (m2 c2 : Nat) (K : ByteArray) (ba ma : Nat) (lr : List Dy) (mf N : Nat) (F : List Td) (X : World) : Prop where
  r1 : X.heap[w0.heap.size]? = some (.cells #[.int .i64 p.count, .int .i64 p.idx, .int .i64 p.it.kind, .string p.it.id, .string p.it.parent, .string p.it.number, .string p.it.north, .string p.it.south, .bool p.it.gone, .slice A2 m2 c2] 29 (0, 0))
  up : Below w0.heap.size w0 X
  ra : Rd ba ma K lr X
  fm : X.ownsMap Tryz.prog 3 rTd mf N (firstD F)
theorem PO.below {w0 : World} {p : Pf} {A2 : Option Addr} {m2 c2 : Nat} {K : ByteArray} {ba ma : Nat} {lr : List Dy} {mf N : Nat} {F : List Td} {X X' : World} (h : PO w0 p A2 m2 c2 K ba ma lr mf N F X) (hb : Below X.heap.size X X') : PO w0 p A2 m2 c2 K ba ma lr mf N F X' :=
  ⟨iNext h.r1 hb, bnext h.up hb, h.ra.below hb, ownsMap_off (S := []) h.fm (Off.of_below hb) (by simp)⟩
theorem PO.far {w0 : World} {p : Pf} {A2 : Option Addr} {m2 c2 : Nat} {K : ByteArray} {ba ma : Nat} {lr : List Dy} {mf N : Nat} {F : List Td} {X X' : World} (h : PO w0 p A2 m2 c2 K ba ma lr mf N F X) {m : Nat} (ho : Off [m] X X') (h0 : w0.heap.size < m) (h1 : ba ≠ m) (h2 : ma ≠ m) (h3 : mf ≠ m) : PO w0 p A2 m2 c2 K ba ma lr mf N F X' :=
  ⟨ho.row h.r1 (by simpa using Nat.ne_of_lt h0), h.up.trans (ho.below (B := w0.heap.size) h.up.size (by simpa using Nat.le_of_lt h0)), h.ra.far ho (by simpa using h1) (by simpa using h2), ownsMap_off h.fm ho (by simpa using h3)⟩
theorem PO.learn {w0 : World} {p : Pf} {A2 : Option Addr} {m2 c2 : Nat} {K : ByteArray} {ba ma : Nat} {lr : List Dy} {mf N : Nat} {F : List Td} {X X' : World} {l' : List Dy} (h : PO w0 p A2 m2 c2 K ba ma lr mf N F X) (ap : Aq w0.heap.size ba ma mf) (ho : Off [ma] X X') (hR : Rd ba ma K l' X') : PO w0 p A2 m2 c2 K ba ma l' mf N F X' :=
  ⟨ho.row h.r1 (by simpa using Nat.ne_of_lt ap.ga), h.up.trans (ho.below (B := w0.heap.size) h.up.size (by simpa using Nat.le_of_lt ap.ga)), hR, ownsMap_off h.fm ho (by simpa using ap.mm.symm)⟩
theorem PO.put {w0 : World} {p : Pf} {A2 : Option Addr} {m2 c2 : Nat} {K : ByteArray} {ba ma : Nat} {lr : List Dy} {mf N : Nat} {F : List Td} {X X' : World} {N' : Nat} {F' : List Td} (h : PO w0 p A2 m2 c2 K ba ma lr mf N F X) (ap : Aq w0.heap.size ba ma mf) (ho : Off [mf] X X') (hF : X'.ownsMap Tryz.prog 3 rTd mf N' (firstD F')) : PO w0 p A2 m2 c2 K ba ma lr mf N' F' X' :=
  ⟨ho.row h.r1 (by simpa using Nat.ne_of_lt ap.gf), h.up.trans (ho.below (B := w0.heap.size) h.up.size (by simpa using Nat.le_of_lt ap.gf)), h.ra.far ho (by simpa using ap.ab) (by simpa using ap.mm), hF⟩
/-- .. a thing told in its variable, its seal. -/
structure PT (w0 : World) (p : Pf) (A2 : Option Addr) (m2 c2 : Nat) (K : ByteArray) (ba ma : Nat) (lr : List Dy) (mf N : Nat) (F : List Td) (tb : Nat) (x : Td) (sb : Nat) (A : Option Addr) (c : Nat) (A' : Option Addr) (c' : Nat) (SG : List ByteArray) (X : World) : Prop where
  o : PO w0 p A2 m2 c2 K ba ma lr mf N F X
  t : X.heap[tb]? = some (.cells #[.int .i64 x.day, .int .i64 x.count, .string x.root, .bool x.wrong] 46 (0, 0))
  s : SR sb A c A' c' SG X
theorem PT.below {w0 : World} {p : Pf} {A2 : Option Addr} {m2 c2 : Nat} {K : ByteArray} {ba ma : Nat} {lr : List Dy} {mf N : Nat} {F : List Td} {tb : Nat} {x : Td} {sb : Nat} {A : Option Addr} {c : Nat} {A' : Option Addr} {c' : Nat} {SG : List ByteArray} {X X' : World} (h : PT w0 p A2 m2 c2 K ba ma lr mf N F tb x sb A c A' c' SG X) (hb : Below X.heap.size X X') : PT w0 p A2 m2 c2 K ba ma lr mf N F tb x sb A c A' c' SG X' := ⟨h.o.below hb, iNext h.t hb, h.s.next hb⟩
theorem PT.far {w0 : World} {p : Pf} {A2 : Option Addr} {m2 c2 : Nat} {K : ByteArray} {ba ma : Nat} {lr : List Dy} {mf N : Nat} {F : List Td} {tb : Nat} {x : Td} {sb : Nat} {A : Option Addr} {c : Nat} {A' : Option Addr} {c' : Nat} {SG : List ByteArray} {X X' : World} (h : PT w0 p A2 m2 c2 K ba ma lr mf N F tb x sb A c A' c' SG X) {m : Nat} (ho : Off [m] X X') (hm : ∀ off, X.cell? ⟨m, off, none⟩ = none) (h0 : w0.heap.size < m) (h1 : ba ≠ m) (h2 : ma ≠ m) (h3 : mf ≠ m) (h4 : tb ≠ m) (h5 : sb ≠ m) : PT w0 p A2 m2 c2 K ba ma lr mf N F tb x sb A c A' c' SG X' :=
  ⟨h.o.far ho h0 h1 h2 h3, ho.row h.t (by simpa using h4), h.s.learn hm ho h5⟩
theorem PT.learn {w0 : World} {p : Pf} {A2 : Option Addr} {m2 c2 : Nat} {K : ByteArray} {ba ma : Nat} {lr : List Dy} {mf N : Nat} {F : List Td} {tb : Nat} {x : Td} {sb : Nat} {A : Option Addr} {c : Nat} {A' : Option Addr} {c' : Nat} {SG : List ByteArray} {X X' : World} {l' : List Dy} (h : PT w0 p A2 m2 c2 K ba ma lr mf N F tb x sb A c A' c' SG X) (ap : Aq w0.heap.size ba ma mf) (ho : Off [ma] X X') (hR : Rd ba ma K l' X') (h4 : tb ≠ ma) (h5 : sb ≠ ma) : PT w0 p A2 m2 c2 K ba ma l' mf N F tb x sb A c A' c' SG X' :=
  ⟨h.o.learn ap ho hR, ho.row h.t (by simpa using h4), h.s.learn (map_row h.o.ra.map) ho h5⟩
/-- .. what was told first. -/
structure PW (w0 : World) (p : Pf) (A2 : Option Addr) (m2 c2 : Nat) (K : ByteArray) (ba ma : Nat) (lr : List Dy) (mf N : Nat) (F : List Td) (tb : Nat) (x : Td) (sb : Nat) (A : Option Addr) (c : Nat) (A' : Option Addr) (c' : Nat) (SG : List ByteArray) (wb : Nat) (t : Td) (X : World) : Prop where
  o : PT w0 p A2 m2 c2 K ba ma lr mf N F tb x sb A c A' c' SG X
  r : X.heap[wb]? = some (.cells #[.int .i64 t.day, .int .i64 t.count, .string t.root, .bool t.wrong] 46 (0, 0))
theorem PW.below {w0 : World} {p : Pf} {A2 : Option Addr} {m2 c2 : Nat} {K : ByteArray} {ba ma : Nat} {lr : List Dy} {mf N : Nat} {F : List Td} {tb : Nat} {x : Td} {sb : Nat} {A : Option Addr} {c : Nat} {A' : Option Addr} {c' : Nat} {SG : List ByteArray} {wb : Nat} {t : Td} {X X' : World} (h : PW w0 p A2 m2 c2 K ba ma lr mf N F tb x sb A c A' c' SG wb t X) (hb : Below X.heap.size X X') : PW w0 p A2 m2 c2 K ba ma lr mf N F tb x sb A c A' c' SG wb t X' := ⟨h.o.below hb, iNext h.r hb⟩
theorem PW.far {w0 : World} {p : Pf} {A2 : Option Addr} {m2 c2 : Nat} {K : ByteArray} {ba ma : Nat} {lr : List Dy} {mf N : Nat} {F : List Td} {tb : Nat} {x : Td} {sb : Nat} {A : Option Addr} {c : Nat} {A' : Option Addr} {c' : Nat} {SG : List ByteArray} {wb : Nat} {t : Td} {X X' : World} (h : PW w0 p A2 m2 c2 K ba ma lr mf N F tb x sb A c A' c' SG wb t X) {m : Nat} (ho : Off [m] X X') (hm : ∀ off, X.cell? ⟨m, off, none⟩ = none) (h0 : w0.heap.size < m) (h1 : ba ≠ m) (h2 : ma ≠ m) (h3 : mf ≠ m) (h4 : tb ≠ m) (h5 : sb ≠ m) (h6 : wb ≠ m) : PW w0 p A2 m2 c2 K ba ma lr mf N F tb x sb A c A' c' SG wb t X' :=
  ⟨h.o.far ho hm h0 h1 h2 h3 h4 h5, ho.row h.r (by simpa using h6)⟩
theorem PW.lts {w0 : World} {p : Pf} {A2 : Option Addr} {m2 c2 : Nat} {K : ByteArray} {ba ma : Nat} {lr : List Dy} {mf N : Nat} {F : List Td} {tb : Nat} {x : Td} {sb : Nat} {A : Option Addr} {c : Nat} {A' : Option Addr} {c' : Nat} {SG : List ByteArray} {wb : Nat} {t : Td} {X : World} (h : PW w0 p A2 m2 c2 K ba ma lr mf N F tb x sb A c A' c' SG wb t X) : w0.heap.size < X.heap.size ∧ ba < X.heap.size ∧ ma < X.heap.size ∧ mf < X.heap.size ∧ tb < X.heap.size ∧ sb < X.heap.size ∧ wb < X.heap.size :=
  ⟨lt_of_block h.o.o.r1, lt_of_block h.o.o.ra.row, h.o.o.ra.map.lt, h.o.o.fm.lt, lt_of_block h.o.t, lt_of_block h.o.s.row, lt_of_block h.r⟩
theorem tCells {w : World} {g : Nat} {x : Td} (h : w.heap[g]? = some (.cells #[.int .i64 x.day, .int .i64 x.count, .string x.root, .bool x.wrong] 46 (0, 0))) : w.cell? ⟨g, 0, none⟩ = some (.int .i64 x.day) ∧ w.cell? ⟨g, 1, none⟩ = some (.int .i64 x.count) ∧ w.cell? ⟨g, 2, none⟩ = some (.string x.root) ∧ w.cell? ⟨g, 3, none⟩ = some (.bool x.wrong) := by
  refine ⟨?_, ?_, ?_, ?_⟩ <;> (rw [cell_of_row _ _ _ _ _ (0, 0) h]; rfl)
theorem first_any {W : World} {mb N : Nat} {l : List Td} (h : W.ownsMap Tryz.prog 3 rTd mb N (firstD l)) (d : Int) (m0 : -9223372036854775808 ≤ d) (m1 : d ≤ 9223372036854775807) :
    ∃ t ok, (Instr.lookup 64 (.map (some mb)) (.int .i64 d) true).run Tryz.prog W = .ok (.tuple #[.agg #[.int .i64 t.day, .int .i64 t.count, .string t.root, .bool t.wrong], .bool ok]) W ∧ (foundT l d = none → ok = false) ∧ (∀ y, foundT l d = some y → ok = true ∧ t = y) := by
  obtain ⟨h1, h2⟩ := first_look h d m0 m1
  cases hf : foundT l d with
  | none => exact ⟨noTd, false, h2 hf, fun _ => rfl, fun y e => (by cases e)⟩
  | some y => exact ⟨y, true, h1 y hf, fun e => (by cases e), fun z e => (by injection e with e; exact ⟨rfl, e⟩)⟩
set_option maxRecDepth 100000 in
set_option maxHeartbeats 16000000 in
theorem law_published (l : List Td) (T : Option Addr) (n c : Nat) (hl : l.length = n) (hn : n ≤ 9223372036854775807) (hw : ∀ x ∈ l, TdW x) (p : Pf) (A2 : Option Addr) (m2 c2 : Nat) (hm2 : p.path.length = m2) (hpz : m2 ≤ 9223372036854775807) (hpt : ItW p.it) (hsum : p.it.id.size + p.it.parent.size + p.it.number.size ≤ 9223372036854775807)
    (day : Int) (dy0 : -9223372036854775808 ≤ day) (dy1 : day ≤ 9223372036854775807) (w : World) (he : Env w) (hT : Tds w w.heap.size T l) (hP : Strs w w.heap.size A2 p.path) :
    Calls Tryz.prog 6 #[.slice T n c, .agg #[.int .i64 p.count, .int .i64 p.idx, .int .i64 p.it.kind, .string p.it.id, .string p.it.parent, .string p.it.number, .string p.it.north, .string p.it.south, .bool p.it.gone, .slice A2 m2 c2], .int .i64 day] w fun e w' => e = .returned (.bool true) ∧ Below w.heap.size w w' := by
  have hmx : Tryz.prog.follows .mixedOrders = true := by kernel_rfl
  have hmm := @run_makeMap Tryz.prog
  have hb1 := Below.news (Below.refl w.heap.size w) (.cells #[.int .i64 p.count, .int .i64 p.idx, .int .i64 p.it.kind, .string p.it.id, .string p.it.parent, .string p.it.number, .string p.it.north, .string p.it.south, .bool p.it.gone, .slice A2 m2 c2] 29)
  have hr1 := heap_alloc_new w (.cells #[.int .i64 p.count, .int .i64 p.idx, .int .i64 p.it.kind, .string p.it.id, .string p.it.parent, .string p.it.number, .string p.it.north, .string p.it.south, .bool p.it.gone, .slice A2 m2 c2] 29)
  have HL := hide hl; have HW := hide hw; have HM2 := hide hm2; have HT := hide hT; have HP := hide hP
  have HD0 := hide dy0; have HD1 := hide dy1
  clear hl hw hm2 hT hP dy0 dy1
  go_enter Tryz.func6, Tryz.ntmps6
  go_wp2_with fail
  generalize w.alloc (.cells #[.int .i64 p.count, .int .i64 p.idx, .int .i64 p.it.kind, .string p.it.id, .string p.it.parent, .string p.it.number, .string p.it.north, .string p.it.south, .bool p.it.gone, .slice A2 m2 c2] 29) = w1 at *
  refine (head44_of w1 (he.next hb1)).mono ?_
  rintro e w2 ⟨rfl, hx2⟩
  have hr2 := iNext hr1 hx2
  have hb2 := bnext hb1 hx2
  clear hr1 hb1 hx2
  obtain ⟨F, hF⟩ : ∃ F, shortL l 10 = F := ⟨_, rfl⟩
  go_wp2_with fail
  refine (short_of l T n c HL.out hn 10 w2 ((HT.out.below hb2).more hb2.size) (fun x hx => (HW.out x hx).rz) F hF).mono ?_
  rintro e w3 ⟨rfl, hx3⟩
  have hr3 := iNext hr2 hx3
  have hb3 := bnext hb2 hx3
  clear hr2 hb2 hx3
  cases F with
  | false =>
    clear hF
    go_wp2
    go_ret
    exact ⟨rfl, hb3⟩
  | true =>
    obtain ⟨n8, z8⟩ := shortL_spec hF
    rw [HL.out] at n8
    have hn8 : n ≤ 10 := by omega
    have HZ := hide z8
    clear hF z8 n8
    obtain ⟨G, hG⟩ : ∃ G, fewP p = G := ⟨_, rfl⟩
    obtain ⟨z0, z1, z2, z3, z4, z5, z6, z7, z8, z9⟩ := jCells10 hr3
    go_wp2_with fail
    refine (rfewP_of p A2 m2 c2 HM2.out hpz ⟨hpt.iz, hpt.pz, hpt.nz⟩ hsum w3 ((HP.out.below hb3).more hb3.size) G hG).mono ?_
    rintro e w4 ⟨rfl, hx4⟩
    have hr4 := iNext hr3 hx4
    have hb4 := bnext hb3 hx4
    clear hr3 hb3 hx4 z0 z1 z2 z3 z4 z5 z6 z7 z8 z9 hsum hpt
    cases G with
    | false =>
      clear hG
      go_wp2
      go_ret
      exact ⟨rfl, hb4⟩
    | true =>
      obtain ⟨PZ, p30, PP⟩ := fewP_leaf hG
      rw [HM2.out] at p30
      have HPZ := hide PZ; have HPP := hide PP
      clear hG PZ PP
      obtain ⟨K, hK⟩ : ∃ K, Dg.publicB offB 0 = K := ⟨_, rfl⟩
      obtain ⟨S0, hS0⟩ : ∃ S, Dg.sigB (secB false) 0 (msgB 0 0 ⟨#[]⟩) = S := ⟨_, rfl⟩
      have HK := hide hK; have HS0 := hide hS0
      clear hK hS0
      go_wp2_with fail
      refine (signed_of 0 0 ⟨#[]⟩ false (by decide) (by decide) (by decide) (by decide) (by decide) w4 (he.next hb4) K HK.out S0 HS0.out).mono ?_
      rintro e w5 ⟨A5, c5, B5, d5, rfl, _, _, hx5⟩
      have hx6 := Below.news (Below.refl w5.heap.size w5) (.cells #[.int .i64 0, .slice A5 18 c5, .slice B5 0 d5] 42)
      have hr6 := iNext (iNext hr4 hx5) hx6
      have hb6 := bnext (bnext hb4 hx5) hx6
      clear hr4 hb4 hx5 hx6 HS0
      go_wp2_with fail
      generalize w5.alloc (.cells #[.int .i64 0, .slice A5 18 c5, .slice B5 0 d5] 42) = w6 at *
      generalize w5.heap.size = s0 at *
      refine (pnew_of K w6).mono ?_
      rintro e w7 ⟨rfl, hR7, hz7, hx7⟩
      have hx8 := Below.news (Below.refl w7.heap.size w7) (.map #[] 0)
      have hmap8 := World.ownsMap_made w7 Tryz.prog 3 rTd
      have HAP := hide (show Aq w.heap.size (w6.heap.size + 1) w6.heap.size w7.heap.size by
        have h2 := lt_of_block hr6
        constructor <;> omega)
      have hS8 : PO w p A2 m2 c2 K (w6.heap.size + 1) w6.heap.size [] w7.heap.size 0 [] (w7.alloc (.map #[] 0)) := ⟨iNext (iNext hr6 hx7) hx8, bnext (bnext hb6 hx7) hx8, hR7.below hx8, hmap8⟩
      clear hr6 hb6 hx7 hx8 hR7 hz7 hmap8
      go_upto_region 7 with (fail)
      generalize w7.alloc (.map #[] 0) = w8 at *
      generalize w6.heap.size + 1 = ba at *
      generalize w6.heap.size = ma at *
      generalize w7.heap.size = mf at *
      clear hmm
      go_wp2
      go_loopw [12] (fun iv wr => ∃ k : Nat, k ≤ n ∧ iv = .int .i64 (k : Int) ∧ ∃ lr F N, PO w p A2 m2 c2 K ba ma lr mf N F wr ∧ lr.length ≤ k ∧ N ≤ k ∧ Hid (PubI F lr) ∧ Hid (∀ y ∈ F, y ∈ l)) (fun iv _ => n - (intOf iv).toNat)
      case atStart => exact ⟨0, by omega, rfl, [], [], 0, hS8, by simp, by simp, PubI.nil, fun y hy => by cases hy⟩
      case round =>
        clear hS8
        obtain ⟨k, hk, rfl, lr, F, N, hS, hlr, hN, HPI, HFL⟩ := hrel
        by_cases hlt : k < n
        · have hkl : k < l.length := by rw [HL.out]; exact hlt
          obtain ⟨b, off, rfl, _⟩ := HT.out.get hkl
          have hkn : (k : Int) < (n : Int) := by omega
          have hk0 : (0 : Int) ≤ (k : Int) := by omega
          obtain ⟨x, hx⟩ : ∃ x, l[k] = x := ⟨_, rfl⟩
          have hwx : TdW x := by rw [← hx]; exact HW.out _ (List.getElem_mem _)
          have hrz : x.root.size ≤ 100 := by rw [← hx]; exact HZ.out _ (List.getElem_mem _)
          obtain ⟨q0, q1, q2, q3⟩ := (HT.out.below hS.up).cells hkl x hx
          obtain ⟨SG, hSG⟩ : ∃ S, Dg.sigB (secB x.wrong) 0 (msgB x.day x.count x.root) = S := ⟨_, rfl⟩
          have N1 := hide (show SG.length = 18 by rw [← hSG]; exact Dg.sigB_len _ _ _)
          have Z1 := hide (show ∀ s ∈ SG, s.size ≤ 1048576 by rw [← hSG]; exact sigB_small _ _ _)
          obtain ⟨V, hV⟩ : ∃ V, vT K x = V := ⟨_, rfl⟩
          have HV := hide (show verifyB K (msgB x.day x.count x.root) 0 SG [] = V by rw [← hV, ← hSG]; rfl)
          obtain ⟨E, D, hE⟩ : ∃ E D, learnE lr V x.day x.count x.root = (E, D) := ⟨_, _, rfl⟩
          obtain ⟨E2, D2, hE2⟩ : ∃ E D, learnE [] V x.day x.count x.root = (E, D) := ⟨_, _, rfl⟩
          have HDL := hide (learn_len hE)
          have HC := hide (learn_pub HPI.out x hE hE2)
          have HE := hide hE; have HE2 := hide hE2; have HSG := hide hSG
          have HXM := hide (show x ∈ l by rw [← hx]; exact List.getElem_mem _)
          have d0 := hwx.d0; have d1 := hwx.d1; have c0 := hwx.c0; have c1 := hwx.c1
          clear hV hSG hE hE2 hx hwx
          have hx1 := Below.news (Below.refl wr.heap.size wr) (.cells #[.int .i64 x.day, .int .i64 x.count, .string x.root, .bool x.wrong] 46)
          have hr1 := heap_alloc_new wr (.cells #[.int .i64 x.day, .int .i64 x.count, .string x.root, .bool x.wrong] 46)
          go_upto_region 11 with (fail)
          have hS1 := hS.below hx1
          clear hS hx1 q0 q1 q2 q3
          generalize wr.alloc (.cells #[.int .i64 x.day, .int .i64 x.count, .string x.root, .bool x.wrong] 46) = w1 at *
          generalize wr.heap.size = tb at *
          obtain ⟨q0, q1, q2, q3⟩ := tCells hr1
          go_wp2_with fail
          refine (signed_of x.day x.count x.root x.wrong d0 d1 c0 c1 (Nat.le_trans hrz (by decide)) w1 (he.next hS1.up) K HK.out SG HSG.out).mono ?_
          rintro e w2 ⟨A, c, A', c', rfl, hc, hs2, hx2⟩
          have hs := SR.new (c := c) (A' := A') (c' := c') hs2
          have hx3 := Below.news (Below.refl w2.heap.size w2) (.cells #[.int .i64 0, .slice A 18 c, .slice A' 0 c'] 42)
          have hT3 : PT w p A2 m2 c2 K ba ma lr mf N F tb x w2.heap.size A c A' c' SG (w2.alloc (.cells #[.int .i64 0, .slice A 18 c, .slice A' 0 c'] 42)) := ⟨(hS1.below hx2).below hx3, iNext (iNext hr1 hx2) hx3, hs⟩
          clear hS1 hr1 hx2 hx3 hs2 hs q0 q1 q2 q3
          go_upto_region 12 with (fail)
          generalize w2.alloc (.cells #[.int .i64 0, .slice A 18 c, .slice A' 0 c'] 42) = w3 at *
          generalize w2.heap.size = sb at *
          have h4 : tb ≠ ma := fun e => by
            have := map_row hT3.o.ra.map 0
            rw [← e, (tCells hT3.t).1] at this
            cases this
          have h5 : sb ≠ ma := fun e => by
            have := map_row hT3.o.ra.map 0
            rw [← e, (jCells3 hT3.s.row).1] at this
            cases this
          have H4 := hide h4; have H5 := hide h5
          clear h4 h5
          obtain ⟨q0, q1, q2, q3⟩ := tCells hT3.t
          obtain ⟨y0, y1, y2⟩ := jCells3 hT3.s.row
          go_wp2_with fail
          refine (plearn_of ba ma K lr x.day x.count x.root d0 d1 c0 c1 (Nat.le_trans hrz (by decide)) (by omega) 0 A 18 c SG A' 0 c' [] N1.out Z1.out rfl (fun s hs => by cases hs) hc w3 (he.next hT3.o.up) hT3.s.strs ⟨fun h => by simp at h⟩ hT3.o.ra V HV.out E D HE.out).mono ?_
          rintro e w4 ⟨rfl, hR4, ho4⟩
          have hT4 := hT3.learn HAP.out ho4 hR4 H4.out H5.out
          clear hT3 hR4 ho4 q0 q1 q2 q3 y0 y1 y2
          obtain ⟨q0, q1, q2, q3⟩ := tCells hT4.t
          obtain ⟨t, ok, hlk, HN9, HS9⟩ := first_any hT4.o.fm x.day d0 d1
          have HNO := hide HN9; have HSO := hide HS9
          clear HN9 HS9
          have hx5 := Below.news (Below.refl w4.heap.size w4) (.cells #[.int .i64 t.day, .int .i64 t.count, .string t.root, .bool t.wrong] 46)
          have hr5 := heap_alloc_new w4 (.cells #[.int .i64 t.day, .int .i64 t.count, .string t.root, .bool t.wrong] 46)
          go_upto_region 14 with (fail)
          have hT5 : PW w p A2 m2 c2 K ba ma D mf N F tb x sb A c A' c' SG w4.heap.size t (w4.alloc (.cells #[.int .i64 t.day, .int .i64 t.count, .string t.root, .bool t.wrong] 46)) := ⟨hT4.below hx5, hr5⟩
          clear hT4 hx5 hr5 hlk q0 q1 q2 q3
          generalize w4.alloc (.cells #[.int .i64 t.day, .int .i64 t.count, .string t.root, .bool t.wrong] 46) = w5 at *
          generalize w4.heap.size = wb at *
          rcases HC.out with ⟨e1, e2, e3, hpi⟩ | ⟨rfl, rfl, hf, hpi⟩ | ⟨rfl, rfl, ⟨t9, hf, hq⟩, hpi⟩ | ⟨rfl, rfl, ⟨t9, hf, hq⟩, hpi⟩
          · have hb0 : (E == (0 : Int)) = false := beq_eq_false_iff_ne.2 e1
            have hb23 : (E == (23 : Int)) = false := beq_eq_false_iff_ne.2 e2
            have hb2 : (E2 == (0 : Int)) = false := beq_eq_false_iff_ne.2 e3
            have HPJ := hide hpi
            clear e1 e2 e3 hpi HC HPI
            go_upto_region 15 with (fail)
            refine wp_region_noPanic ?_
            refine wp_region_L (PW w p A2 m2 c2 K ba ma D mf N F tb x sb A c A' c' SG wb t) 13 hmx ?_
            have hdr := (Below.refl w5.heap.size w5).drew
            have hS21 : (PW w p A2 m2 c2 K ba ma D mf N F tb x sb A c A' c' SG wb t) w5.drew := hT5.below hdr
            clear hdr hT5
            generalize w5.drew = w21 at *
            refine wpAnyL_take (i := 0) (f0 := 15) (v := ?_) rfl (by decide +kernel) (by decide +kernel) (by decide +kernel) (by decide +kernel) (by decide +kernel) (fun _ _ _ h => h) (Or.inl ⟨by rfl, ?_⟩) hS21 ?_
            rotate_left
            · intro wS hS; go_simp; (try with_reducible rfl)
            simp only [Act.put, List.getElem_toArray, List.getElem_cons_zero, List.setIfInBounds_toArray, List.set_cons_succ, List.set_cons_zero]
            refine wpAnyL_take (i := 1) (f0 := 15) (v := ?_) rfl (by decide +kernel) (by decide +kernel) (by decide +kernel) (by decide +kernel) (by decide +kernel) (fun _ _ _ h => h) (Or.inl ⟨by rfl, ?_⟩) hS21 ?_
            rotate_left
            · intro wS hS; go_simp; (try with_reducible rfl)
            simp only [Act.put, List.getElem_toArray, List.getElem_cons_succ, List.getElem_cons_zero, List.setIfInBounds_toArray, List.set_cons_succ, List.set_cons_zero]
            refine wpAnyL_take (i := 3) (f0 := 15) (v := ?_) rfl (by decide +kernel) (by decide +kernel) (by decide +kernel) (by decide +kernel) (by decide +kernel) (fun _ _ _ h => h) (Or.inl ⟨by rfl, ?_⟩) hS21 ?_
            rotate_left
            · intro wS hS; go_simp; (try with_reducible rfl)
            simp only [Act.put, List.getElem_toArray, List.getElem_cons_succ, List.getElem_cons_zero, List.setIfInBounds_toArray, List.set_cons_succ, List.set_cons_zero]
            refine wpAnyL_take (i := 4) (f0 := 15) (v := ?_) rfl (by decide +kernel) (by decide +kernel) (by decide +kernel) (by decide +kernel) (by decide +kernel) (fun _ _ _ h => h) (Or.inl ⟨by rfl, ?_⟩) hS21 ?_
            rotate_left
            · intro wS hS; obtain ⟨q0, q1, q2, q3⟩ := tCells hS.o.t; go_simp; (try with_reducible rfl)
            simp only [Act.put, List.getElem_toArray, List.getElem_cons_succ, List.getElem_cons_zero, List.setIfInBounds_toArray, List.set_cons_succ, List.set_cons_zero]
            refine wpAnyL_take (i := 5) (f0 := 15) (v := ?_) rfl (by decide +kernel) (by decide +kernel) (by decide +kernel) (by decide +kernel) (by decide +kernel) (fun _ _ _ h => h) (Or.inl ⟨by rfl, ?_⟩) hS21 ?_
            rotate_left
            · intro wS hS; go_simp; (try with_reducible rfl)
            simp only [Act.put, List.getElem_toArray, List.getElem_cons_succ, List.getElem_cons_zero, List.setIfInBounds_toArray, List.set_cons_succ, List.set_cons_zero]
            refine wpAnyL_take (i := 6) (f0 := 15) (v := ?_) rfl (by decide +kernel) (by decide +kernel) (by decide +kernel) (by decide +kernel) (by decide +kernel) (fun _ _ _ h => h) (Or.inl ⟨by rfl, ?_⟩) hS21 ?_
            rotate_left
            · intro wS hS; obtain ⟨q0, q1, q2, q3⟩ := tCells hS.o.t; go_simp; (try with_reducible rfl)
            simp only [Act.put, List.getElem_toArray, List.getElem_cons_succ, List.getElem_cons_zero, List.setIfInBounds_toArray, List.set_cons_succ, List.set_cons_zero]
            refine wpAnyL_take (i := 7) (f0 := 15) (v := ?_) rfl (by decide +kernel) (by decide +kernel) (by decide +kernel) (by decide +kernel) (by decide +kernel) (fun _ _ _ h => h) (Or.inl ⟨by rfl, ?_⟩) hS21 ?_
            rotate_left
            · intro wS hS; go_simp; (try with_reducible rfl)
            simp only [Act.put, List.getElem_toArray, List.getElem_cons_succ, List.getElem_cons_zero, List.setIfInBounds_toArray, List.set_cons_succ, List.set_cons_zero]
            refine wpAnyL_take (i := 8) (f0 := 15) (v := ?_) rfl (by decide +kernel) (by decide +kernel) (by decide +kernel) (by decide +kernel) (by decide +kernel) (fun _ _ _ h => h) (Or.inl ⟨by rfl, ?_⟩) hS21 ?_
            rotate_left
            · intro wS hS; obtain ⟨q0, q1, q2, q3⟩ := tCells hS.o.t; go_simp; (try with_reducible rfl)
            simp only [Act.put, List.getElem_toArray, List.getElem_cons_succ, List.getElem_cons_zero, List.setIfInBounds_toArray, List.set_cons_succ, List.set_cons_zero]
            refine wpAnyL_take (i := 9) (f0 := 15) (v := ?_) rfl (by decide +kernel) (by decide +kernel) (by decide +kernel) (by decide +kernel) (by decide +kernel) (fun _ _ _ h => h) (Or.inl ⟨by rfl, ?_⟩) hS21 ?_
            rotate_left
            · intro wS hS; obtain ⟨y0, y1, y2⟩ := jCells3 hS.o.s.row; go_simp; (try with_reducible rfl)
            simp only [Act.put, List.getElem_toArray, List.getElem_cons_succ, List.getElem_cons_zero, List.setIfInBounds_toArray, List.set_cons_succ, List.set_cons_zero]
            refine wpAnyL_one (i := 2) (by decide +kernel) (by rfl) (fun K9 hK => ?_)
            rw [if_pos (by rfl)]
            go_simp
            have hlts := hS21.lts
            refine (pnew_of K w21).mono ?_
            rintro e w22 ⟨rfl, hR9, hz9, hx9⟩
            have hS22 : (PW w p A2 m2 c2 K ba ma D mf N F tb x sb A c A' c' SG wb t) w22 := hS21.below hx9
            clear hx9
            generalize w21.heap.size = z9 at *
            refine hK.out _ _ (Or.inr hS22) ?_
            clear hK K9 hS21
            try simp only [Act.put, List.getElem_toArray, List.getElem_cons_succ, List.getElem_cons_zero, List.setIfInBounds_toArray, List.set_cons_succ, List.set_cons_zero]
            refine wpAnyL_one (i := 10) (by decide +kernel) (by rfl) (fun K9 hK => ?_)
            rw [if_pos (by rfl)]
            go_simp
            have hm9 := map_row hR9.map
            refine (plearn_of (z9 + 1) z9 K [] x.day x.count x.root d0 d1 c0 c1 (Nat.le_trans hrz (by decide)) (by decide) 0 A 18 c SG A' 0 c' [] N1.out Z1.out rfl (fun s hs => by cases hs) hc w22 (he.next hS22.o.o.up) hS22.o.s.strs ⟨fun h => by simp at h⟩ hR9 V HV.out E2 D2 HE2.out).mono ?_
            rintro e w23 ⟨rfl, _, ho⟩
            have hS23 : (PW w p A2 m2 c2 K ba ma D mf N F tb x sb A c A' c' SG wb t) w23 := hS22.far ho hm9 hlts.1 (Nat.ne_of_lt hlts.2.1) (Nat.ne_of_lt hlts.2.2.1) (Nat.ne_of_lt hlts.2.2.2.1) (Nat.ne_of_lt hlts.2.2.2.2.1) (Nat.ne_of_lt hlts.2.2.2.2.2.1) (Nat.ne_of_lt hlts.2.2.2.2.2.2)
            refine hK.out _ _ (Or.inr hS23) ?_
            clear hK K9 hS22 ho hm9 hR9 hlts hz9
            try simp only [Act.put, List.getElem_toArray, List.getElem_cons_succ, List.getElem_cons_zero, List.setIfInBounds_toArray, List.set_cons_succ, List.set_cons_zero]
            refine wpAnyL_take (i := 11) (f0 := 15) (v := ?_) rfl (by decide +kernel) (by decide +kernel) (by decide +kernel) (by decide +kernel) (by decide +kernel) (fun _ _ _ h => h) (Or.inl ⟨by rfl, ?_⟩) hS23 ?_
            rotate_left
            · intro wS hS; go_simp; (try with_reducible rfl)
            simp only [Act.put, List.getElem_toArray, List.getElem_cons_succ, List.getElem_cons_zero, List.setIfInBounds_toArray, List.set_cons_succ, List.set_cons_zero]
            refine wpAnyL_take (i := 12) (f0 := 15) (v := ?_) rfl (by decide +kernel) (by decide +kernel) (by decide +kernel) (by decide +kernel) (by decide +kernel) (fun _ _ _ h => h) (Or.inl ⟨by rfl, ?_⟩) hS23 ?_
            rotate_left
            · intro wS hS; go_simp; (try with_reducible rfl)
            simp only [Act.put, List.getElem_toArray, List.getElem_cons_succ, List.getElem_cons_zero, List.setIfInBounds_toArray, List.set_cons_succ, List.set_cons_zero]
            refine wpAnyL_done (by decide +kernel) ?_ _
            refine NoPanic.normal ?_
            clear hb2
            go_wp2
            go_roundw
            case rel => exact ⟨k + 1, by omega, by go_num, D, F, N, hS23.o.o, by have := HDL.out; omega, by omega, HPJ, HFL⟩
            case measure => simp [intOf]; omega
          · obtain rfl := HNO.out hf
            have HF := hide hf; have HPJ := hide hpi
            clear hf hpi HC HPI
            go_upto_region 15 with (fail)
            refine wp_region_noPanic ?_
            refine wp_region_L (PW w p A2 m2 c2 K ba ma D mf N F tb x sb A c A' c' SG wb t) 13 hmx ?_
            have hdr := (Below.refl w5.heap.size w5).drew
            have hS41 : (PW w p A2 m2 c2 K ba ma D mf N F tb x sb A c A' c' SG wb t) w5.drew := hT5.below hdr
            clear hdr hT5
            generalize w5.drew = w41 at *
            refine wpAnyL_take (i := 0) (f0 := 15) (v := ?_) rfl (by decide +kernel) (by decide +kernel) (by decide +kernel) (by decide +kernel) (by decide +kernel) (fun _ _ _ h => h) (Or.inl ⟨by rfl, ?_⟩) hS41 ?_
            rotate_left
            · intro wS hS; go_simp; (try with_reducible rfl)
            simp only [Act.put, List.getElem_toArray, List.getElem_cons_zero, List.setIfInBounds_toArray, List.set_cons_succ, List.set_cons_zero]
            refine wpAnyL_take (i := 1) (f0 := 15) (v := ?_) rfl (by decide +kernel) (by decide +kernel) (by decide +kernel) (by decide +kernel) (by decide +kernel) (fun _ _ _ h => h) (Or.inl ⟨by rfl, ?_⟩) hS41 ?_
            rotate_left
            · intro wS hS; go_simp; (try with_reducible rfl)
            simp only [Act.put, List.getElem_toArray, List.getElem_cons_succ, List.getElem_cons_zero, List.setIfInBounds_toArray, List.set_cons_succ, List.set_cons_zero]
            refine wpAnyL_take (i := 3) (f0 := 15) (v := ?_) rfl (by decide +kernel) (by decide +kernel) (by decide +kernel) (by decide +kernel) (by decide +kernel) (fun _ _ _ h => h) (Or.inl ⟨by rfl, ?_⟩) hS41 ?_
            rotate_left
            · intro wS hS; go_simp; (try with_reducible rfl)
            simp only [Act.put, List.getElem_toArray, List.getElem_cons_succ, List.getElem_cons_zero, List.setIfInBounds_toArray, List.set_cons_succ, List.set_cons_zero]
            refine wpAnyL_take (i := 4) (f0 := 15) (v := ?_) rfl (by decide +kernel) (by decide +kernel) (by decide +kernel) (by decide +kernel) (by decide +kernel) (fun _ _ _ h => h) (Or.inl ⟨by rfl, ?_⟩) hS41 ?_
            rotate_left
            · intro wS hS; obtain ⟨q0, q1, q2, q3⟩ := tCells hS.o.t; go_simp; (try with_reducible rfl)
            simp only [Act.put, List.getElem_toArray, List.getElem_cons_succ, List.getElem_cons_zero, List.setIfInBounds_toArray, List.set_cons_succ, List.set_cons_zero]
            refine wpAnyL_take (i := 5) (f0 := 15) (v := ?_) rfl (by decide +kernel) (by decide +kernel) (by decide +kernel) (by decide +kernel) (by decide +kernel) (fun _ _ _ h => h) (Or.inl ⟨by rfl, ?_⟩) hS41 ?_
            rotate_left
            · intro wS hS; go_simp; (try with_reducible rfl)
            simp only [Act.put, List.getElem_toArray, List.getElem_cons_succ, List.getElem_cons_zero, List.setIfInBounds_toArray, List.set_cons_succ, List.set_cons_zero]
            refine wpAnyL_take (i := 6) (f0 := 15) (v := ?_) rfl (by decide +kernel) (by decide +kernel) (by decide +kernel) (by decide +kernel) (by decide +kernel) (fun _ _ _ h => h) (Or.inl ⟨by rfl, ?_⟩) hS41 ?_
            rotate_left
            · intro wS hS; obtain ⟨q0, q1, q2, q3⟩ := tCells hS.o.t; go_simp; (try with_reducible rfl)
            simp only [Act.put, List.getElem_toArray, List.getElem_cons_succ, List.getElem_cons_zero, List.setIfInBounds_toArray, List.set_cons_succ, List.set_cons_zero]
            refine wpAnyL_take (i := 7) (f0 := 15) (v := ?_) rfl (by decide +kernel) (by decide +kernel) (by decide +kernel) (by decide +kernel) (by decide +kernel) (fun _ _ _ h => h) (Or.inl ⟨by rfl, ?_⟩) hS41 ?_
            rotate_left
            · intro wS hS; go_simp; (try with_reducible rfl)
            simp only [Act.put, List.getElem_toArray, List.getElem_cons_succ, List.getElem_cons_zero, List.setIfInBounds_toArray, List.set_cons_succ, List.set_cons_zero]
            refine wpAnyL_take (i := 8) (f0 := 15) (v := ?_) rfl (by decide +kernel) (by decide +kernel) (by decide +kernel) (by decide +kernel) (by decide +kernel) (fun _ _ _ h => h) (Or.inl ⟨by rfl, ?_⟩) hS41 ?_
            rotate_left
            · intro wS hS; obtain ⟨q0, q1, q2, q3⟩ := tCells hS.o.t; go_simp; (try with_reducible rfl)
            simp only [Act.put, List.getElem_toArray, List.getElem_cons_succ, List.getElem_cons_zero, List.setIfInBounds_toArray, List.set_cons_succ, List.set_cons_zero]
            refine wpAnyL_take (i := 9) (f0 := 15) (v := ?_) rfl (by decide +kernel) (by decide +kernel) (by decide +kernel) (by decide +kernel) (by decide +kernel) (fun _ _ _ h => h) (Or.inl ⟨by rfl, ?_⟩) hS41 ?_
            rotate_left
            · intro wS hS; obtain ⟨y0, y1, y2⟩ := jCells3 hS.o.s.row; go_simp; (try with_reducible rfl)
            simp only [Act.put, List.getElem_toArray, List.getElem_cons_succ, List.getElem_cons_zero, List.setIfInBounds_toArray, List.set_cons_succ, List.set_cons_zero]
            refine wpAnyL_one (i := 2) (by decide +kernel) (by rfl) (fun K9 hK => ?_)
            rw [if_pos (by rfl)]
            go_simp
            have hlts := hS41.lts
            refine (pnew_of K w41).mono ?_
            rintro e w42 ⟨rfl, hR9, hz9, hx9⟩
            have hS42 : (PW w p A2 m2 c2 K ba ma D mf N F tb x sb A c A' c' SG wb t) w42 := hS41.below hx9
            clear hx9
            generalize w41.heap.size = z9 at *
            refine hK.out _ _ (Or.inr hS42) ?_
            clear hK K9 hS41
            try simp only [Act.put, List.getElem_toArray, List.getElem_cons_succ, List.getElem_cons_zero, List.setIfInBounds_toArray, List.set_cons_succ, List.set_cons_zero]
            refine wpAnyL_one (i := 10) (by decide +kernel) (by rfl) (fun K9 hK => ?_)
            rw [if_pos (by rfl)]
            go_simp
            have hm9 := map_row hR9.map
            refine (plearn_of (z9 + 1) z9 K [] x.day x.count x.root d0 d1 c0 c1 (Nat.le_trans hrz (by decide)) (by decide) 0 A 18 c SG A' 0 c' [] N1.out Z1.out rfl (fun s hs => by cases hs) hc w42 (he.next hS42.o.o.up) hS42.o.s.strs ⟨fun h => by simp at h⟩ hR9 V HV.out 0 D2 HE2.out).mono ?_
            rintro e w43 ⟨rfl, _, ho⟩
            have hS43 : (PW w p A2 m2 c2 K ba ma D mf N F tb x sb A c A' c' SG wb t) w43 := hS42.far ho hm9 hlts.1 (Nat.ne_of_lt hlts.2.1) (Nat.ne_of_lt hlts.2.2.1) (Nat.ne_of_lt hlts.2.2.2.1) (Nat.ne_of_lt hlts.2.2.2.2.1) (Nat.ne_of_lt hlts.2.2.2.2.2.1) (Nat.ne_of_lt hlts.2.2.2.2.2.2)
            refine hK.out _ _ (Or.inr hS43) ?_
            clear hK K9 hS42 ho hm9 hR9 hlts hz9
            try simp only [Act.put, List.getElem_toArray, List.getElem_cons_succ, List.getElem_cons_zero, List.setIfInBounds_toArray, List.set_cons_succ, List.set_cons_zero]
            refine wpAnyL_take (i := 11) (f0 := 15) (v := ?_) rfl (by decide +kernel) (by decide +kernel) (by decide +kernel) (by decide +kernel) (by decide +kernel) (fun _ _ _ h => h) (Or.inl ⟨by rfl, ?_⟩) hS43 ?_
            rotate_left
            · intro wS hS; go_simp; (try with_reducible rfl)
            simp only [Act.put, List.getElem_toArray, List.getElem_cons_succ, List.getElem_cons_zero, List.setIfInBounds_toArray, List.set_cons_succ, List.set_cons_zero]
            refine wpAnyL_take (i := 12) (f0 := 15) (v := ?_) rfl (by decide +kernel) (by decide +kernel) (by decide +kernel) (by decide +kernel) (by decide +kernel) (fun _ _ _ h => h) (Or.inl ⟨by rfl, ?_⟩) hS43 ?_
            rotate_left
            · intro wS hS; go_simp; (try with_reducible rfl)
            simp only [Act.put, List.getElem_toArray, List.getElem_cons_succ, List.getElem_cons_zero, List.setIfInBounds_toArray, List.set_cons_succ, List.set_cons_zero]
            refine wpAnyL_done (by decide +kernel) ?_ _
            refine NoPanic.normal ?_
            obtain ⟨q0, q1, q2, q3⟩ := tCells hS43.o.t
            go_upto_region 20 with (fail)
            have hup := World.ownsMap.update (w := w43) hS43.o.o.fm lawIntP Tryz.underlying64 (by unfold maxLen; omega) (key_intP x.day d0 d1) (rTd_mk x)
            obtain ⟨w9, hrun9, hM9, hg9⟩ := hup
            unfold mkTd at hrun9
            go_upto_region 9 with (fail)
            have hS9 := hS43.o.o.put HAP.out (Off.of_grown hg9 (fun j hj => by cases hj; simp)) (F' := x :: F) hM9
            clear hrun9 hM9 hg9 hS43 q0 q1 q2 q3
            go_wp2
            go_roundw
            case rel => exact ⟨k + 1, by omega, by go_num, D, x :: F, N + 1, hS9, by have := HDL.out; omega, by omega, HPJ, fun y hy => by
              rcases List.mem_cons.1 hy with rfl | hy
              · exact HXM.out
              · exact HFL.out y hy⟩
            case measure => simp [intOf]; omega
          · obtain ⟨rfl, rfl⟩ := HSO.out t9 hf
            have hbr := bs_yes hq.1
            have hbc : (t.count == x.count) = true := beq_iff_eq.2 hq.2
            have HBR := hide hbr; have HBC := hide hbc
            have HPJ := hide hpi
            clear hf hpi HC HPI hq hbr hbc
            go_upto_region 15 with (fail)
            refine wp_region_noPanic ?_
            refine wp_region_L (PW w p A2 m2 c2 K ba ma D mf N F tb x sb A c A' c' SG wb t) 13 hmx ?_
            have hdr := (Below.refl w5.heap.size w5).drew
            have hS61 : (PW w p A2 m2 c2 K ba ma D mf N F tb x sb A c A' c' SG wb t) w5.drew := hT5.below hdr
            clear hdr hT5
            generalize w5.drew = w61 at *
            refine wpAnyL_take (i := 0) (f0 := 15) (v := ?_) rfl (by decide +kernel) (by decide +kernel) (by decide +kernel) (by decide +kernel) (by decide +kernel) (fun _ _ _ h => h) (Or.inl ⟨by rfl, ?_⟩) hS61 ?_
            rotate_left
            · intro wS hS; go_simp; (try with_reducible rfl)
            simp only [Act.put, List.getElem_toArray, List.getElem_cons_zero, List.setIfInBounds_toArray, List.set_cons_succ, List.set_cons_zero]
            refine wpAnyL_take (i := 1) (f0 := 15) (v := ?_) rfl (by decide +kernel) (by decide +kernel) (by decide +kernel) (by decide +kernel) (by decide +kernel) (fun _ _ _ h => h) (Or.inl ⟨by rfl, ?_⟩) hS61 ?_
            rotate_left
            · intro wS hS; go_simp; (try with_reducible rfl)
            simp only [Act.put, List.getElem_toArray, List.getElem_cons_succ, List.getElem_cons_zero, List.setIfInBounds_toArray, List.set_cons_succ, List.set_cons_zero]
            refine wpAnyL_take (i := 3) (f0 := 15) (v := ?_) rfl (by decide +kernel) (by decide +kernel) (by decide +kernel) (by decide +kernel) (by decide +kernel) (fun _ _ _ h => h) (Or.inl ⟨by rfl, ?_⟩) hS61 ?_
            rotate_left
            · intro wS hS; go_simp; (try with_reducible rfl)
            simp only [Act.put, List.getElem_toArray, List.getElem_cons_succ, List.getElem_cons_zero, List.setIfInBounds_toArray, List.set_cons_succ, List.set_cons_zero]
            refine wpAnyL_take (i := 4) (f0 := 15) (v := ?_) rfl (by decide +kernel) (by decide +kernel) (by decide +kernel) (by decide +kernel) (by decide +kernel) (fun _ _ _ h => h) (Or.inl ⟨by rfl, ?_⟩) hS61 ?_
            rotate_left
            · intro wS hS; obtain ⟨q0, q1, q2, q3⟩ := tCells hS.o.t; go_simp; (try with_reducible rfl)
            simp only [Act.put, List.getElem_toArray, List.getElem_cons_succ, List.getElem_cons_zero, List.setIfInBounds_toArray, List.set_cons_succ, List.set_cons_zero]
            refine wpAnyL_take (i := 5) (f0 := 15) (v := ?_) rfl (by decide +kernel) (by decide +kernel) (by decide +kernel) (by decide +kernel) (by decide +kernel) (fun _ _ _ h => h) (Or.inl ⟨by rfl, ?_⟩) hS61 ?_
            rotate_left
            · intro wS hS; go_simp; (try with_reducible rfl)
            simp only [Act.put, List.getElem_toArray, List.getElem_cons_succ, List.getElem_cons_zero, List.setIfInBounds_toArray, List.set_cons_succ, List.set_cons_zero]
            refine wpAnyL_take (i := 6) (f0 := 15) (v := ?_) rfl (by decide +kernel) (by decide +kernel) (by decide +kernel) (by decide +kernel) (by decide +kernel) (fun _ _ _ h => h) (Or.inl ⟨by rfl, ?_⟩) hS61 ?_
            rotate_left
            · intro wS hS; obtain ⟨q0, q1, q2, q3⟩ := tCells hS.o.t; go_simp; (try with_reducible rfl)
            simp only [Act.put, List.getElem_toArray, List.getElem_cons_succ, List.getElem_cons_zero, List.setIfInBounds_toArray, List.set_cons_succ, List.set_cons_zero]
            refine wpAnyL_take (i := 7) (f0 := 15) (v := ?_) rfl (by decide +kernel) (by decide +kernel) (by decide +kernel) (by decide +kernel) (by decide +kernel) (fun _ _ _ h => h) (Or.inl ⟨by rfl, ?_⟩) hS61 ?_
            rotate_left
            · intro wS hS; go_simp; (try with_reducible rfl)
            simp only [Act.put, List.getElem_toArray, List.getElem_cons_succ, List.getElem_cons_zero, List.setIfInBounds_toArray, List.set_cons_succ, List.set_cons_zero]
            refine wpAnyL_take (i := 8) (f0 := 15) (v := ?_) rfl (by decide +kernel) (by decide +kernel) (by decide +kernel) (by decide +kernel) (by decide +kernel) (fun _ _ _ h => h) (Or.inl ⟨by rfl, ?_⟩) hS61 ?_
            rotate_left
            · intro wS hS; obtain ⟨q0, q1, q2, q3⟩ := tCells hS.o.t; go_simp; (try with_reducible rfl)
            simp only [Act.put, List.getElem_toArray, List.getElem_cons_succ, List.getElem_cons_zero, List.setIfInBounds_toArray, List.set_cons_succ, List.set_cons_zero]
            refine wpAnyL_take (i := 9) (f0 := 15) (v := ?_) rfl (by decide +kernel) (by decide +kernel) (by decide +kernel) (by decide +kernel) (by decide +kernel) (fun _ _ _ h => h) (Or.inl ⟨by rfl, ?_⟩) hS61 ?_
            rotate_left
            · intro wS hS; obtain ⟨y0, y1, y2⟩ := jCells3 hS.o.s.row; go_simp; (try with_reducible rfl)
            simp only [Act.put, List.getElem_toArray, List.getElem_cons_succ, List.getElem_cons_zero, List.setIfInBounds_toArray, List.set_cons_succ, List.set_cons_zero]
            refine wpAnyL_one (i := 2) (by decide +kernel) (by rfl) (fun K9 hK => ?_)
            rw [if_pos (by rfl)]
            go_simp
            have hlts := hS61.lts
            refine (pnew_of K w61).mono ?_
            rintro e w62 ⟨rfl, hR9, hz9, hx9⟩
            have hS62 : (PW w p A2 m2 c2 K ba ma D mf N F tb x sb A c A' c' SG wb t) w62 := hS61.below hx9
            clear hx9
            generalize w61.heap.size = z9 at *
            refine hK.out _ _ (Or.inr hS62) ?_
            clear hK K9 hS61
            try simp only [Act.put, List.getElem_toArray, List.getElem_cons_succ, List.getElem_cons_zero, List.setIfInBounds_toArray, List.set_cons_succ, List.set_cons_zero]
            refine wpAnyL_one (i := 10) (by decide +kernel) (by rfl) (fun K9 hK => ?_)
            rw [if_pos (by rfl)]
            go_simp
            have hm9 := map_row hR9.map
            refine (plearn_of (z9 + 1) z9 K [] x.day x.count x.root d0 d1 c0 c1 (Nat.le_trans hrz (by decide)) (by decide) 0 A 18 c SG A' 0 c' [] N1.out Z1.out rfl (fun s hs => by cases hs) hc w62 (he.next hS62.o.o.up) hS62.o.s.strs ⟨fun h => by simp at h⟩ hR9 V HV.out 0 D2 HE2.out).mono ?_
            rintro e w63 ⟨rfl, _, ho⟩
            have hS63 : (PW w p A2 m2 c2 K ba ma D mf N F tb x sb A c A' c' SG wb t) w63 := hS62.far ho hm9 hlts.1 (Nat.ne_of_lt hlts.2.1) (Nat.ne_of_lt hlts.2.2.1) (Nat.ne_of_lt hlts.2.2.2.1) (Nat.ne_of_lt hlts.2.2.2.2.1) (Nat.ne_of_lt hlts.2.2.2.2.2.1) (Nat.ne_of_lt hlts.2.2.2.2.2.2)
            refine hK.out _ _ (Or.inr hS63) ?_
            clear hK K9 hS62 ho hm9 hR9 hlts hz9
            try simp only [Act.put, List.getElem_toArray, List.getElem_cons_succ, List.getElem_cons_zero, List.setIfInBounds_toArray, List.set_cons_succ, List.set_cons_zero]
            refine wpAnyL_take (i := 11) (f0 := 15) (v := ?_) rfl (by decide +kernel) (by decide +kernel) (by decide +kernel) (by decide +kernel) (by decide +kernel) (fun _ _ _ h => h) (Or.inl ⟨by rfl, ?_⟩) hS63 ?_
            rotate_left
            · intro wS hS; go_simp; (try with_reducible rfl)
            simp only [Act.put, List.getElem_toArray, List.getElem_cons_succ, List.getElem_cons_zero, List.setIfInBounds_toArray, List.set_cons_succ, List.set_cons_zero]
            refine wpAnyL_take (i := 12) (f0 := 15) (v := ?_) rfl (by decide +kernel) (by decide +kernel) (by decide +kernel) (by decide +kernel) (by decide +kernel) (fun _ _ _ h => h) (Or.inl ⟨by rfl, ?_⟩) hS63 ?_
            rotate_left
            · intro wS hS; go_simp; (try with_reducible rfl)
            simp only [Act.put, List.getElem_toArray, List.getElem_cons_succ, List.getElem_cons_zero, List.setIfInBounds_toArray, List.set_cons_succ, List.set_cons_zero]
            refine wpAnyL_done (by decide +kernel) ?_ _
            refine NoPanic.normal ?_
            obtain ⟨q0, q1, q2, q3⟩ := tCells hS63.o.t
            obtain ⟨u0, u1, u2, u3⟩ := tCells hS63.r
            have hbr := HBR.out
            have hbc := HBC.out
            go_wp2
            go_roundw
            case rel => exact ⟨k + 1, by omega, by go_num, D, F, N, hS63.o.o, by have := HDL.out; omega, by omega, HPJ, HFL⟩
            case measure => simp [intOf]; omega
          · obtain ⟨rfl, rfl⟩ := HSO.out t9 hf
            have HQ := hide hq
            have HPJ := hide hpi
            clear hf hpi HC HPI hq
            go_upto_region 15 with (fail)
            refine wp_region_noPanic ?_
            refine wp_region_L (PW w p A2 m2 c2 K ba ma D mf N F tb x sb A c A' c' SG wb t) 13 hmx ?_
            have hdr := (Below.refl w5.heap.size w5).drew
            have hS81 : (PW w p A2 m2 c2 K ba ma D mf N F tb x sb A c A' c' SG wb t) w5.drew := hT5.below hdr
            clear hdr hT5
            generalize w5.drew = w81 at *
            refine wpAnyL_take (i := 0) (f0 := 15) (v := ?_) rfl (by decide +kernel) (by decide +kernel) (by decide +kernel) (by decide +kernel) (by decide +kernel) (fun _ _ _ h => h) (Or.inl ⟨by rfl, ?_⟩) hS81 ?_
            rotate_left
            · intro wS hS; go_simp; (try with_reducible rfl)
            simp only [Act.put, List.getElem_toArray, List.getElem_cons_zero, List.setIfInBounds_toArray, List.set_cons_succ, List.set_cons_zero]
            refine wpAnyL_take (i := 1) (f0 := 15) (v := ?_) rfl (by decide +kernel) (by decide +kernel) (by decide +kernel) (by decide +kernel) (by decide +kernel) (fun _ _ _ h => h) (Or.inl ⟨by rfl, ?_⟩) hS81 ?_
            rotate_left
            · intro wS hS; go_simp; (try with_reducible rfl)
            simp only [Act.put, List.getElem_toArray, List.getElem_cons_succ, List.getElem_cons_zero, List.setIfInBounds_toArray, List.set_cons_succ, List.set_cons_zero]
            refine wpAnyL_take (i := 3) (f0 := 15) (v := ?_) rfl (by decide +kernel) (by decide +kernel) (by decide +kernel) (by decide +kernel) (by decide +kernel) (fun _ _ _ h => h) (Or.inl ⟨by rfl, ?_⟩) hS81 ?_
            rotate_left
            · intro wS hS; go_simp; (try with_reducible rfl)
            simp only [Act.put, List.getElem_toArray, List.getElem_cons_succ, List.getElem_cons_zero, List.setIfInBounds_toArray, List.set_cons_succ, List.set_cons_zero]
            refine wpAnyL_take (i := 4) (f0 := 15) (v := ?_) rfl (by decide +kernel) (by decide +kernel) (by decide +kernel) (by decide +kernel) (by decide +kernel) (fun _ _ _ h => h) (Or.inl ⟨by rfl, ?_⟩) hS81 ?_
            rotate_left
            · intro wS hS; obtain ⟨q0, q1, q2, q3⟩ := tCells hS.o.t; go_simp; (try with_reducible rfl)
            simp only [Act.put, List.getElem_toArray, List.getElem_cons_succ, List.getElem_cons_zero, List.setIfInBounds_toArray, List.set_cons_succ, List.set_cons_zero]
            refine wpAnyL_take (i := 5) (f0 := 15) (v := ?_) rfl (by decide +kernel) (by decide +kernel) (by decide +kernel) (by decide +kernel) (by decide +kernel) (fun _ _ _ h => h) (Or.inl ⟨by rfl, ?_⟩) hS81 ?_
            rotate_left
            · intro wS hS; go_simp; (try with_reducible rfl)
            simp only [Act.put, List.getElem_toArray, List.getElem_cons_succ, List.getElem_cons_zero, List.setIfInBounds_toArray, List.set_cons_succ, List.set_cons_zero]
            refine wpAnyL_take (i := 6) (f0 := 15) (v := ?_) rfl (by decide +kernel) (by decide +kernel) (by decide +kernel) (by decide +kernel) (by decide +kernel) (fun _ _ _ h => h) (Or.inl ⟨by rfl, ?_⟩) hS81 ?_
            rotate_left
            · intro wS hS; obtain ⟨q0, q1, q2, q3⟩ := tCells hS.o.t; go_simp; (try with_reducible rfl)
            simp only [Act.put, List.getElem_toArray, List.getElem_cons_succ, List.getElem_cons_zero, List.setIfInBounds_toArray, List.set_cons_succ, List.set_cons_zero]
            refine wpAnyL_take (i := 7) (f0 := 15) (v := ?_) rfl (by decide +kernel) (by decide +kernel) (by decide +kernel) (by decide +kernel) (by decide +kernel) (fun _ _ _ h => h) (Or.inl ⟨by rfl, ?_⟩) hS81 ?_
            rotate_left
            · intro wS hS; go_simp; (try with_reducible rfl)
            simp only [Act.put, List.getElem_toArray, List.getElem_cons_succ, List.getElem_cons_zero, List.setIfInBounds_toArray, List.set_cons_succ, List.set_cons_zero]
            refine wpAnyL_take (i := 8) (f0 := 15) (v := ?_) rfl (by decide +kernel) (by decide +kernel) (by decide +kernel) (by decide +kernel) (by decide +kernel) (fun _ _ _ h => h) (Or.inl ⟨by rfl, ?_⟩) hS81 ?_
            rotate_left
            · intro wS hS; obtain ⟨q0, q1, q2, q3⟩ := tCells hS.o.t; go_simp; (try with_reducible rfl)
            simp only [Act.put, List.getElem_toArray, List.getElem_cons_succ, List.getElem_cons_zero, List.setIfInBounds_toArray, List.set_cons_succ, List.set_cons_zero]
            refine wpAnyL_take (i := 9) (f0 := 15) (v := ?_) rfl (by decide +kernel) (by decide +kernel) (by decide +kernel) (by decide +kernel) (by decide +kernel) (fun _ _ _ h => h) (Or.inl ⟨by rfl, ?_⟩) hS81 ?_
            rotate_left
            · intro wS hS; obtain ⟨y0, y1, y2⟩ := jCells3 hS.o.s.row; go_simp; (try with_reducible rfl)
            simp only [Act.put, List.getElem_toArray, List.getElem_cons_succ, List.getElem_cons_zero, List.setIfInBounds_toArray, List.set_cons_succ, List.set_cons_zero]
            refine wpAnyL_one (i := 2) (by decide +kernel) (by rfl) (fun K9 hK => ?_)
            rw [if_pos (by rfl)]
            go_simp
            have hlts := hS81.lts
            refine (pnew_of K w81).mono ?_
            rintro e w82 ⟨rfl, hR9, hz9, hx9⟩
            have hS82 : (PW w p A2 m2 c2 K ba ma D mf N F tb x sb A c A' c' SG wb t) w82 := hS81.below hx9
            clear hx9
            generalize w81.heap.size = z9 at *
            refine hK.out _ _ (Or.inr hS82) ?_
            clear hK K9 hS81
            try simp only [Act.put, List.getElem_toArray, List.getElem_cons_succ, List.getElem_cons_zero, List.setIfInBounds_toArray, List.set_cons_succ, List.set_cons_zero]
            refine wpAnyL_one (i := 10) (by decide +kernel) (by rfl) (fun K9 hK => ?_)
            rw [if_pos (by rfl)]
            go_simp
            have hm9 := map_row hR9.map
            refine (plearn_of (z9 + 1) z9 K [] x.day x.count x.root d0 d1 c0 c1 (Nat.le_trans hrz (by decide)) (by decide) 0 A 18 c SG A' 0 c' [] N1.out Z1.out rfl (fun s hs => by cases hs) hc w82 (he.next hS82.o.o.up) hS82.o.s.strs ⟨fun h => by simp at h⟩ hR9 V HV.out 0 D2 HE2.out).mono ?_
            rintro e w83 ⟨rfl, _, ho⟩
            have hS83 : (PW w p A2 m2 c2 K ba ma D mf N F tb x sb A c A' c' SG wb t) w83 := hS82.far ho hm9 hlts.1 (Nat.ne_of_lt hlts.2.1) (Nat.ne_of_lt hlts.2.2.1) (Nat.ne_of_lt hlts.2.2.2.1) (Nat.ne_of_lt hlts.2.2.2.2.1) (Nat.ne_of_lt hlts.2.2.2.2.2.1) (Nat.ne_of_lt hlts.2.2.2.2.2.2)
            refine hK.out _ _ (Or.inr hS83) ?_
            clear hK K9 hS82 ho hm9 hR9 hlts hz9
            try simp only [Act.put, List.getElem_toArray, List.getElem_cons_succ, List.getElem_cons_zero, List.setIfInBounds_toArray, List.set_cons_succ, List.set_cons_zero]
            refine wpAnyL_take (i := 11) (f0 := 15) (v := ?_) rfl (by decide +kernel) (by decide +kernel) (by decide +kernel) (by decide +kernel) (by decide +kernel) (fun _ _ _ h => h) (Or.inl ⟨by rfl, ?_⟩) hS83 ?_
            rotate_left
            · intro wS hS; go_simp; (try with_reducible rfl)
            simp only [Act.put, List.getElem_toArray, List.getElem_cons_succ, List.getElem_cons_zero, List.setIfInBounds_toArray, List.set_cons_succ, List.set_cons_zero]
            refine wpAnyL_take (i := 12) (f0 := 15) (v := ?_) rfl (by decide +kernel) (by decide +kernel) (by decide +kernel) (by decide +kernel) (by decide +kernel) (fun _ _ _ h => h) (Or.inl ⟨by rfl, ?_⟩) hS83 ?_
            rotate_left
            · intro wS hS; go_simp; (try with_reducible rfl)
            simp only [Act.put, List.getElem_toArray, List.getElem_cons_succ, List.getElem_cons_zero, List.setIfInBounds_toArray, List.set_cons_succ, List.set_cons_zero]
            refine wpAnyL_done (by decide +kernel) ?_ _
            refine NoPanic.normal ?_
            obtain ⟨q0, q1, q2, q3⟩ := tCells hS83.o.t
            obtain ⟨u0, u1, u2, u3⟩ := tCells hS83.r
            by_cases hr : t.root = x.root
            · have hbr := bs_yes hr
              have hbc : (t.count == x.count) = false := beq_eq_false_iff_ne.2 fun e => HQ.out ⟨hr, e⟩
              clear hr
              go_wp2
              go_roundw
              case rel => exact ⟨k + 1, by omega, by go_num, D, F, N, hS83.o.o, by have := HDL.out; omega, by omega, HPJ, HFL⟩
              case measure => simp [intOf]; omega
            · have hbr := bs_no hr
              clear hr
              go_wp2
              go_roundw
              case rel => exact ⟨k + 1, by omega, by go_num, D, F, N, hS83.o.o, by have := HDL.out; omega, by omega, HPJ, HFL⟩
              case measure => simp [intOf]; omega
        · obtain rfl : n = k := by omega
          obtain ⟨hl1, hl2⟩ := first_look hS.fm day HD0.out HD1.out
          obtain ⟨W9, hW9⟩ : ∃ E, wasE lr day p = E := ⟨_, rfl⟩
          have HW9 := hide hW9
          have hlen := World.ownsMap.len hS.fm Tryz.underlying64
          clear hW9
          cases hf : foundT F day with
          | none =>
            have hlk := hl2 hf
            obtain rfl : W9 = 11 := HW9.out.symm.trans (was_none HPI.out p hf)
            have HDY := hide (pub_days HPI.out)
            clear hl1 hl2 hf hlen
            have hx5 := Below.news (Below.refl wr.heap.size wr) (.cells #[.int .i64 0, .int .i64 0, .string ⟨#[]⟩, .bool false] 46)
            go_upto_region 22 with (fail)
            have hS5 := hS.below hx5
            clear hS hx5 hlk
            generalize wr.alloc (.cells #[.int .i64 0, .int .i64 0, .string ⟨#[]⟩, .bool false] 46) = w5 at *
            obtain ⟨z0, z1, z2, z3, z4, z5, z6, z7, z8, z9⟩ := jCells10 hS5.r1
            go_wp2_with fail
            refine (pwas_of ba ma K lr day HD0.out HD1.out p A2 m2 c2 HM2.out (by omega) (fun s hs => Nat.le_trans (HPP.out s hs) (by decide)) HPZ.out w5 (he.next hS5.up) ((HP.out.below hS5.up).more hS5.up.size) hS5.ra 11 HW9.out).mono ?_
            rintro e w6 ⟨rfl, hx6⟩
            have hS6 := hS5.below hx6
            clear hS5 hx6 z0 z1 z2 z3 z4 z5 z6 z7 z8 z9
            go_wp2_with fail
            refine (pdays_of ba ma K lr (by omega) w6 hS6.ra).mono ?_
            rintro e w7 ⟨⟨AD, cd, rfl, hz⟩, hx7⟩
            have hS7 := hS6.below hx7
            have hlen := World.ownsMap.len hS7.fm Tryz.underlying64
            have hup := hS7.up
            rw [HDY.out]
            clear hS6 hx7 hz hS7 HDY
            generalize Maps.size (firstD F) = sz at *
            go_wp2
            go_ret
            exact ⟨rfl, hup⟩
          | some t =>
            have hlk := hl1 t hf
            have HRT := hide (show t.root.size ≤ 100 from HZ.out _ (HFL.out _ (foundT_day hf).1))
            have HWS := hide (was_some HPI.out p hf)
            clear hl1 hl2 hf hlen
            have hx5 := Below.news (Below.refl wr.heap.size wr) (.cells #[.int .i64 t.day, .int .i64 t.count, .string t.root, .bool t.wrong] 46)
            have hr5 := heap_alloc_new wr (.cells #[.int .i64 t.day, .int .i64 t.count, .string t.root, .bool t.wrong] 46)
            go_upto_region 22 with (fail)
            have hS5 := hS.below hx5
            clear hS hx5 hlk
            generalize wr.alloc (.cells #[.int .i64 t.day, .int .i64 t.count, .string t.root, .bool t.wrong] 46) = w5 at *
            generalize wr.heap.size = wb at *
            obtain ⟨z0, z1, z2, z3, z4, z5, z6, z7, z8, z9⟩ := jCells10 hS5.r1
            go_wp2_with fail
            refine (pwas_of ba ma K lr day HD0.out HD1.out p A2 m2 c2 HM2.out (by omega) (fun s hs => Nat.le_trans (HPP.out s hs) (by decide)) HPZ.out w5 (he.next hS5.up) ((HP.out.below hS5.up).more hS5.up.size) hS5.ra W9 HW9.out).mono ?_
            rintro e w6 ⟨rfl, hx6⟩
            have hS6 := hS5.below hx6
            have hr6 := iNext hr5 hx6
            clear hS5 hx6 hr5 z0 z1 z2 z3 z4 z5 z6 z7 z8 z9
            obtain ⟨z0, z1, z2, z3, z4, z5, z6, z7, z8, z9⟩ := jCells10 hS6.r1
            obtain ⟨u0, u1, u2, u3⟩ := tCells hr6
            obtain ⟨C, hC⟩ : ∃ C, checkP t.root p = C := ⟨_, rfl⟩
            have HC := hide hC
            clear hC
            by_cases hcc : p.count = t.count
            · have hbc : (p.count == t.count) = true := beq_iff_eq.2 hcc
              cases C with
              | true =>
                obtain rfl : W9 = 0 := by rw [← HW9.out, HWS.out, HC.out, if_pos ⟨hcc.symm, rfl⟩]
                clear hcc
                go_wp2_with fail
                refine (pcheck_of t.root p A2 m2 c2 HM2.out (by omega) (fun s hs => Nat.le_trans (HPP.out s hs) (by decide)) HPZ.out w6 (he.next hS6.up) ((HP.out.below hS6.up).more hS6.up.size) true HC.out).mono ?_
                rintro e w7 ⟨rfl, hx7⟩
                have hS7 := hS6.below hx7
                clear hS6 hx7
                go_wp2
                go_ret
                exact ⟨rfl, hS7.up⟩
              | false =>
                obtain rfl : W9 = 21 := by rw [← HW9.out, HWS.out, HC.out, if_neg fun e => by cases e.2]
                clear hcc
                go_wp2_with fail
                refine (pcheck_of t.root p A2 m2 c2 HM2.out (by omega) (fun s hs => Nat.le_trans (HPP.out s hs) (by decide)) HPZ.out w6 (he.next hS6.up) ((HP.out.below hS6.up).more hS6.up.size) false HC.out).mono ?_
                rintro e w7 ⟨rfl, hx7⟩
                have hS7 := hS6.below hx7
                clear hS6 hx7
                go_wp2
                go_ret
                exact ⟨rfl, hS7.up⟩
            · have hbc : (p.count == t.count) = false := beq_eq_false_iff_ne.2 hcc
              obtain rfl : W9 = 21 := by
                rw [← HW9.out, HWS.out, if_neg fun e => hcc e.1.symm]
              clear hcc
              go_wp2
              go_ret
              exact ⟨rfl, hS6.up⟩
end Go.Proofs.YtobhpeockinnjaaGreatDoor

