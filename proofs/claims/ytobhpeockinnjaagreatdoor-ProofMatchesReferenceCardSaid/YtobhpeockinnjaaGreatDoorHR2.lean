/- Walks and laws of this seat, several texts in one. No conditions but those that each theorem states. -/
import Derived.Test.YtobhpeockinnjaaGreatDoorHR1
import Derived.Maps.Own
import Derived.Shelf.GgClosure.StringsRunes
import Derived.Maps.OwnOps
import Derived.Maps.Views
import Derived.ArgAppend
import Derived.StringKeys
import Derived.OrdersIn
import Derived.RangeFuncCalls
import Derived.Deep.RegionHeld
import Derived.Laws.StructEq
import Derived.Maps.OwnSet
import Derived.RangeFuncBox
import Derived.RangeFuncLeaves
import Derived.RangeFuncWrites
import Derived.OwnWalkIn
import Derived.TacticsInMore
import Derived.LoopNIn
import Derived.LoopIn
/- Items of a code in memory; what a visit may write. No conditions but those that each theorem states. -/
namespace Go.Proofs.YtobhpeockinnjaaGreatDoor
open Go Go.RowKit Go.Sort Go.Maps
/-- But for the blocks of S, and new ones, the world is as it was. -/
structure Off (S : List Nat) (w w' : World) : Prop where
  os : w'.os = w.os
  tape : w'.tape = w.tape
  output : w'.output = w.output
  size : w.heap.size ≤ w'.heap.size
  block : ∀ k, k < w.heap.size → k ∉ S → w'.heap[k]? = w.heap[k]?
theorem Off.refl (S : List Nat) (w : World) : Off S w w := ⟨rfl, rfl, rfl, Nat.le_refl _, fun _ _ _ => rfl⟩
theorem Off.trans {S T : List Nat} {a b c : World} (h : Off S a b) (k : Off T b c) (hT : ∀ g ∈ T, g ∈ S ∨ a.heap.size ≤ g) : Off S a c :=
  ⟨k.os.trans h.os, k.tape.trans h.tape, k.output.trans h.output, Nat.le_trans h.size k.size, fun i hi hn => (k.block i (Nat.lt_of_lt_of_le hi h.size) fun hm => by
    rcases hT i hm with h1 | h1
    · exact hn h1
    · omega).trans (h.block i hi hn)⟩
theorem Off.of_below {S : List Nat} {w w' : World} (h : Below w.heap.size w w') : Off S w w' := ⟨h.os, h.tape, h.output, h.size, fun k hk _ => h.block k hk⟩
theorem Off.below {S : List Nat} {w w' : World} {B : Nat} (h : Off S w w') (hB : B ≤ w.heap.size) (hS : ∀ g ∈ S, B ≤ g) : Below B w w' :=
  ⟨h.os, h.tape, h.output, h.size, fun k hk => h.block k (by omega) fun hm => by have := hS k hm; omega⟩
theorem Off.nil {w w' : World} (h : Off [] w w') : Below w.heap.size w w' := h.below (Nat.le_refl _) (fun _ h => by cases h)
theorem Off.of_grown {S : List Nat} {w w' : World} {row : Option Nat} (h : w.grownBy w' row) (hr : ∀ k, row = some k → k ∈ S) : Off S w w' :=
  ⟨h.os, h.tape, h.output, h.size, fun k hk hn => h.block k hk fun e => hn (hr k e.symm)⟩
theorem Off.setCell {S : List Nat} {a w : World} (h : Off S a w) {p : Addr} (hp : p.block ∈ S) (u : Value) : Off S a (w.setCell p u) :=
  ⟨h.os, h.tape, h.output, Nat.le_trans h.size (by simp [World.setCell]), fun k hk hn => (Below.heap_setCell _ _ _ _ (fun e => hn (by rw [e]; exact hp))).trans (h.block k hk hn)⟩
theorem Off.next {S : List Nat} {a w w' : World} (h : Off S a w) (hb : Below w.heap.size w w') : Off S a w' := h.trans (Off.of_below (S := S) hb) (fun _ hg => Or.inl hg)
theorem Off.row {S : List Nat} {w w' : World} {g : Nat} {o : Obj} (h : Off S w w') (hg : w.heap[g]? = some o) (hn : g ∉ S) : w'.heap[g]? = some o := (h.block g (lt_of_block hg) hn).trans hg
theorem OwnV.off {S : List Nat} {w w' : World} {B : Nat} {e : TypeId} {v : Value} {xs : List Value} (h : OwnV w B e v xs) (ho : Off S w w') (hn : ∀ g ∈ S, v.ownBlock ≠ some g) : OwnV w' B e v xs := by
  obtain ⟨h1, h2⟩ := h
  refine ⟨h1, ?_⟩
  rcases h2 with h2 | ⟨g, cap, cur, hv, hg, hh, r⟩
  · exact Or.inl h2
  · exact Or.inr ⟨g, cap, cur, hv, hg, ho.row hh (fun hm => hn g hm (by rw [hv]; rfl)), r⟩
theorem ownsMap_off {H : Type} {S : List Nat} {w w' : World} {P : Program} {k : TypeId} {R : Value → Option (DataW H × List MemPlace)} {b n : Nat} {D : DataW H} (h : w.ownsMap P k R b n D) (ho : Off S w w') (hn : b ∉ S) : w'.ownsMap P k R b n D := by
  obtain ⟨es, clock, h1, h2⟩ := h
  exact ⟨es, clock, ho.row h1 hn, h2⟩
theorem iCells {w : World} {g : Nat} {a0 a1 a2 a3 a4 a5 a6 : Value} {T : TypeId} (h : w.heap[g]? = some (.cells #[a0, a1, a2, a3, a4, a5, a6] T (0, 0))) :
    w.cell? ⟨g, 0, none⟩ = some a0 ∧ w.cell? ⟨g, 1, none⟩ = some a1 ∧ w.cell? ⟨g, 2, none⟩ = some a2 ∧ w.cell? ⟨g, 3, none⟩ = some a3 ∧ w.cell? ⟨g, 4, none⟩ = some a4 ∧ w.cell? ⟨g, 5, none⟩ = some a5 ∧ w.cell? ⟨g, 6, none⟩ = some a6 := by
  refine ⟨?_, ?_, ?_, ?_, ?_, ?_, ?_⟩ <;> (rw [cell_of_row _ _ _ _ _ (0, 0) h]; rfl)
theorem iNext {w w' : World} {g : Nat} {o : Obj} (h : w.heap[g]? = some o) (hb : Below w.heap.size w w') : w'.heap[g]? = some o := (hb.block g (lt_of_block h)).trans h
/-- The cells of an item. -/
def itV (x : Dg.It) : Array Value := #[.int .i64 x.kind, .string x.id, .string x.parent, .string x.number, .string x.north, .string x.south, .bool x.gone]
/-- What an item must be like for the walks: its kind in its range, texts of a moderate size. -/
structure ItW (x : Dg.It) : Prop where
  k0 : -9223372036854775808 ≤ x.kind
  k1 : x.kind ≤ 9223372036854775807
  iz : x.id.size ≤ 9223372036854775807
  pz : x.parent.size ≤ 9223372036854775807
  nz : x.number.size ≤ 9223372036854775807
  oz : x.north.size ≤ 9223372036854775807
  sz : x.south.size ≤ 9223372036854775807
/-- A slice of items. -/
structure Its (w : World) (B : Nat) (A : Option Addr) (l : List Dg.It) : Prop where
  at_ : 0 < l.length → ∃ b off, A = some ⟨b, off, none⟩ ∧ b < B ∧ ∀ (j : Nat) (x : Dg.It), l[j]? = some x → ∀ (i : Nat) (u : Value), (itV x)[i]? = some u → w.cell? ⟨b, off + j * 7 + i, none⟩ = some u
theorem Its.nil (w : World) (B : Nat) (A : Option Addr) : Its w B A [] := ⟨fun h => by simp at h⟩
theorem Its.below {w w' : World} {B : Nat} {A : Option Addr} {l : List Dg.It} (h : Its w B A l) (hb : Below B w w') : Its w' B A l :=
  ⟨fun h0 => by
    obtain ⟨b, off, e, hlt, hc⟩ := h.at_ h0
    exact ⟨b, off, e, hlt, fun j x hj i u hu => (hb.cell (p := ⟨b, off + j * 7 + i, none⟩) hlt).trans (hc j x hj i u hu)⟩⟩
theorem Its.more {w : World} {B B' : Nat} {A : Option Addr} {l : List Dg.It} (h : Its w B A l) (hB : B ≤ B') : Its w B' A l :=
  ⟨fun h0 => by
    obtain ⟨b, off, e, hlt, hc⟩ := h.at_ h0
    exact ⟨b, off, e, by omega, hc⟩⟩
theorem Its.keep {w w' : World} {A : Option Addr} {l : List Dg.It} (h : Its w w.heap.size A l) (hb : Below w.heap.size w w') : Its w' w'.heap.size A l := (h.below hb).more hb.size
theorem Its.get {w : World} {B : Nat} {A : Option Addr} {l : List Dg.It} (h : Its w B A l) {k : Nat} (hk : k < l.length) : ∃ b off, A = some ⟨b, off, none⟩ ∧ b < B ∧ ∀ (i : Nat) (u : Value), (itV l[k])[i]? = some u → w.cell? ⟨b, off + k * 7 + i, none⟩ = some u := by
  obtain ⟨b, off, e, hb, hc⟩ := h.at_ (by omega)
  exact ⟨b, off, e, hb, hc k l[k] (List.getElem?_eq_getElem hk)⟩
/-- The first ones of the items. -/
theorem Its.take {w : World} {B : Nat} {A : Option Addr} {l : List Dg.It} (h : Its w B A l) (k : Nat) : Its w B A (l.take k) :=
  ⟨fun h0 => by
    rw [List.length_take] at h0
    obtain ⟨b, off, e, hb, hc⟩ := h.at_ (by omega)
    exact ⟨b, off, e, hb, fun j x hj => hc j x (by rw [List.getElem?_take] at hj; split at hj; exact hj; cases hj)⟩⟩
end Go.Proofs.YtobhpeockinnjaaGreatDoor
/- isName and proper of package code: names, numbers, items apart from their place. No conditions but those that each theorem states. -/
namespace Go.Proofs.YtobhpeockinnjaaGreatDoor
open Go Go.RowKit Go.Sort
theorem nameL_iff (l : List UInt8) : Dg.nameL l = true ↔ l ≠ [] ∧ ∀ (j : Nat) (c : UInt8), l[j]? = some c → Dg.letterB c = true ∨ (0 < j ∧ Dg.digitB c = true) := by
  cases l with
  | nil => simp [Dg.nameL]
  | cons d r =>
    rw [Dg.nameL, Bool.and_eq_true, List.all_eq_true]
    constructor
    · rintro ⟨h1, h2⟩
      refine ⟨by simp, fun j c hj => ?_⟩
      cases j with
      | zero => simp at hj; subst hj; exact Or.inl h1
      | succ j =>
        have hm := List.mem_of_getElem? (show r[j]? = some c by simpa using hj)
        have h3 := h2 c hm
        rw [Bool.or_eq_true] at h3
        exact h3.imp id (fun h => ⟨by omega, h⟩)
    · rintro ⟨_, h⟩
      refine ⟨by
        rcases h 0 d rfl with h1 | ⟨h1, _⟩
        · exact h1
        · omega, fun c hc => ?_⟩
      obtain ⟨j, hj⟩ := List.getElem?_of_mem hc
      have h3 := h (j + 1) c (by simpa using hj)
      rw [Bool.or_eq_true]
      exact h3.imp id (fun h => h.2)
/-- The bytes of a name so far. -/
def nmTo (l : List UInt8) (k : Nat) : Prop := ∀ (j : Nat) (c : UInt8), j < k → l[j]? = some c → Dg.letterB c = true ∨ (0 < j ∧ Dg.digitB c = true)
theorem nmTo_zero (l : List UInt8) : nmTo l 0 := fun _ _ h => by omega
theorem nmTo_succ {l : List UInt8} {k : Nat} {c : UInt8} (h : nmTo l k) (hc : l[k]? = some c) (h2 : Dg.letterB c = true ∨ (0 < k ∧ Dg.digitB c = true)) : nmTo l (k + 1) := fun j d hj hd => by
  by_cases e : j = k
  · subst e; rw [hc] at hd; cases hd; exact h2
  · exact h j d (by omega) hd
theorem nm_bad {s : ByteArray} {k : Nat} {c : UInt8} (hc : (Dg.L s)[k]? = some c) (h1 : Dg.letterB c = false) (h2 : k = 0 ∨ Dg.digitB c = false) : Dg.isNameB s = false := by
  unfold Dg.isNameB
  rw [Bool.and_eq_false_iff]
  left
  rw [Bool.eq_false_iff]
  intro h
  rcases ((nameL_iff _).1 h).2 k c hc with h3 | ⟨h3, h4⟩
  · rw [h1] at h3; cases h3
  · rcases h2 with h2 | h2
    · omega
    · rw [h2] at h4; cases h4
theorem nm_good {s : ByteArray} (h : nmTo (Dg.L s) s.size) : Dg.isNameB s = (decide (0 < s.size) && decide (s.size ≤ 24)) := by
  unfold Dg.isNameB
  congr 1
  by_cases h0 : 0 < s.size
  · rw [decide_eq_true h0]
    refine (nameL_iff _).2 ⟨fun e => ?_, fun j c hj => h j c ?_ hj⟩
    · have := Dg.len_L s; rw [e] at this; simp at this; omega
    · have := (List.getElem?_eq_some_iff.1 hj).1
      rw [Dg.len_L] at this; exact this
  · rw [decide_eq_false h0]
    have : Dg.L s = [] := List.length_eq_zero_iff.1 (by rw [Dg.len_L]; omega)
    rw [this]; rfl
/-- The ways of a byte. -/
theorem byte_cls (c : UInt8) : (97 ≤ c.toNat ∧ c.toNat ≤ 122 ∧ Dg.letterB c = true) ∨ (65 ≤ c.toNat ∧ c.toNat ≤ 90 ∧ Dg.letterB c = true) ∨ (c.toNat = 95 ∧ Dg.letterB c = false ∧ Dg.digitB c = true) ∨
    (48 ≤ c.toNat ∧ c.toNat ≤ 57 ∧ Dg.letterB c = false ∧ Dg.digitB c = true) ∨ (c.toNat < 48 ∧ Dg.letterB c = false ∧ Dg.digitB c = false) ∨ (57 < c.toNat ∧ c.toNat < 65 ∧ Dg.letterB c = false ∧ Dg.digitB c = false) ∨
    (90 < c.toNat ∧ c.toNat < 97 ∧ c.toNat ≠ 95 ∧ Dg.letterB c = false ∧ Dg.digitB c = false) ∨ (122 < c.toNat ∧ Dg.letterB c = false ∧ Dg.digitB c = false) := by
  have e1 : Dg.letterB c = decide ((97 ≤ c.toNat ∧ c.toNat ≤ 122) ∨ (65 ≤ c.toNat ∧ c.toNat ≤ 90)) := by
    unfold Dg.letterB
    simp [UInt8.le_iff_toNat_le]
  have e2 : Dg.digitB c = decide ((48 ≤ c.toNat ∧ c.toNat ≤ 57) ∨ c.toNat = 95) := by
    unfold Dg.digitB
    have : (c == 95) = decide (c.toNat = 95) := by
      rw [Bool.eq_iff_iff, beq_iff_eq, decide_eq_true_eq]
      exact ⟨fun h => by rw [h]; rfl, fun h => UInt8.toNat_inj.1 h⟩
    rw [this]
    simp [UInt8.le_iff_toNat_le]
  rw [e1, e2]
  simp only [decide_eq_true_eq, decide_eq_false_iff_not]
  omega
theorem byte_at {s : ByteArray} {k : Nat} (h : k < s.size) : (Dg.L s)[k]? = some (s[k]'h) := by
  show s.data.toList[k]? = _
  rw [Array.getElem?_toList]
  exact Array.getElem?_eq_getElem h
set_option maxHeartbeats 8000000 in
theorem isName_any (s : ByteArray) (R : Bool) (hR : Dg.isNameB s = R) (hs : s.size ≤ 9223372036854775807) (w : World) :
    Calls Tryz.prog 153 #[.string s] w fun e w' => e = .returned (.bool R) ∧ w' = w := by
  have HR := hide hR; clear hR
  go_enter Tryz.func153, Tryz.ntmps153
  go_wp2
  go_loop [9] (fun i => ∃ k : Nat, k ≤ s.size ∧ i = .int .i64 k ∧ Hid (nmTo (Dg.L s) k)) (fun i => s.size - (intOf i).toNat)
  case atStart => exact ⟨0, by omega, rfl, nmTo_zero _⟩
  case round =>
    obtain ⟨k, hk, rfl, hm⟩ := hrel
    by_cases hlt : k < s.size
    · have hc := byte_at hlt
      obtain ⟨c, hcc⟩ : ∃ c, s[k]'hlt = c := ⟨_, rfl⟩
      rw [hcc] at hc
      have HC := hide hc; clear hc
      have k0 : ((k : Int) == 0) = decide (k = 0) := by rw [Bool.eq_iff_iff, beq_iff_eq, decide_eq_true_eq]; omega
      rcases byte_cls c with ⟨b0, b1, hl⟩ | ⟨b0, b1, hl⟩ | ⟨b0, hl, hd⟩ | ⟨b0, b1, hl, hd⟩ | ⟨b0, hl, hd⟩ | ⟨b0, b1, hl, hd⟩ | ⟨b0, b1, b2, hl, hd⟩ | ⟨b0, hl, hd⟩
      · have q0 : 97 ≤ (c.toNat : Int) := by omega
        have q1 : (c.toNat : Int) ≤ 122 := by omega
        have q2 : 65 ≤ (c.toNat : Int) := by omega
        have q3 : ¬ (c.toNat : Int) ≤ 90 := by omega
        have q4 : 48 ≤ (c.toNat : Int) := by omega
        have q5 : ¬ (c.toNat : Int) ≤ 57 := by omega
        have q6 : ((c.toNat : Int) == 95) = false := by rw [beq_eq_false_iff_ne, ne_eq]; omega
        have HL := hide (show Dg.letterB c = true ∨ (0 < k ∧ Dg.digitB c = true) from Or.inl hl)
        clear hl b0 b1
        go_wp2
        go_round
        case rel => exact ⟨k + 1, by omega, by go_num, nmTo_succ hm.out HC.out HL.out⟩
        case measure => simp [intOf]; omega
      · have q0 : ¬ 97 ≤ (c.toNat : Int) := by omega
        have q1 : (c.toNat : Int) ≤ 122 := by omega
        have q2 : 65 ≤ (c.toNat : Int) := by omega
        have q3 : (c.toNat : Int) ≤ 90 := by omega
        have q4 : 48 ≤ (c.toNat : Int) := by omega
        have q5 : ¬ (c.toNat : Int) ≤ 57 := by omega
        have q6 : ((c.toNat : Int) == 95) = false := by rw [beq_eq_false_iff_ne, ne_eq]; omega
        have HL := hide (show Dg.letterB c = true ∨ (0 < k ∧ Dg.digitB c = true) from Or.inl hl)
        clear hl b0 b1
        go_wp2
        go_round
        case rel => exact ⟨k + 1, by omega, by go_num, nmTo_succ hm.out HC.out HL.out⟩
        case measure => simp [intOf]; omega
      · have q0 : ¬ 97 ≤ (c.toNat : Int) := by omega
        have q1 : (c.toNat : Int) ≤ 122 := by omega
        have q2 : 65 ≤ (c.toNat : Int) := by omega
        have q3 : ¬ (c.toNat : Int) ≤ 90 := by omega
        have q4 : 48 ≤ (c.toNat : Int) := by omega
        have q5 : ¬ (c.toNat : Int) ≤ 57 := by omega
        have q6 : ((c.toNat : Int) == 95) = true := by rw [beq_iff_eq]; omega
        by_cases kz : k = 0
        · have HL := hide (show Dg.letterB c = false ∧ (k = 0 ∨ Dg.digitB c = false) from ⟨hl, Or.inl kz⟩)
          clear hl hd b0
          have kb : decide (k = 0) = true := decide_eq_true kz
          clear kz
          go_wp2
          go_ret
          exact ⟨ret_bool (HR.out.symm.trans (nm_bad HC.out HL.out.1 HL.out.2)).symm, rfl⟩
        · have HL := hide (show Dg.letterB c = true ∨ (0 < k ∧ Dg.digitB c = true) from Or.inr ⟨by omega, hd⟩)
          clear hl hd b0
          have kb : decide (k = 0) = false := decide_eq_false kz
          clear kz
          go_wp2
          go_round
          case rel => exact ⟨k + 1, by omega, by go_num, nmTo_succ hm.out HC.out HL.out⟩
          case measure => simp [intOf]; omega
      · have q0 : ¬ 97 ≤ (c.toNat : Int) := by omega
        have q1 : (c.toNat : Int) ≤ 122 := by omega
        have q2 : ¬ 65 ≤ (c.toNat : Int) := by omega
        have q3 : (c.toNat : Int) ≤ 90 := by omega
        have q4 : 48 ≤ (c.toNat : Int) := by omega
        have q5 : (c.toNat : Int) ≤ 57 := by omega
        have q6 : ((c.toNat : Int) == 95) = false := by rw [beq_eq_false_iff_ne, ne_eq]; omega
        by_cases kz : k = 0
        · have HL := hide (show Dg.letterB c = false ∧ (k = 0 ∨ Dg.digitB c = false) from ⟨hl, Or.inl kz⟩)
          clear hl hd b0 b1
          have kb : decide (k = 0) = true := decide_eq_true kz
          clear kz
          go_wp2
          go_ret
          exact ⟨ret_bool (HR.out.symm.trans (nm_bad HC.out HL.out.1 HL.out.2)).symm, rfl⟩
        · have HL := hide (show Dg.letterB c = true ∨ (0 < k ∧ Dg.digitB c = true) from Or.inr ⟨by omega, hd⟩)
          clear hl hd b0 b1
          have kb : decide (k = 0) = false := decide_eq_false kz
          clear kz
          go_wp2
          go_round
          case rel => exact ⟨k + 1, by omega, by go_num, nmTo_succ hm.out HC.out HL.out⟩
          case measure => simp [intOf]; omega
      · have q0 : ¬ 97 ≤ (c.toNat : Int) := by omega
        have q1 : (c.toNat : Int) ≤ 122 := by omega
        have q2 : ¬ 65 ≤ (c.toNat : Int) := by omega
        have q3 : (c.toNat : Int) ≤ 90 := by omega
        have q4 : ¬ 48 ≤ (c.toNat : Int) := by omega
        have q5 : (c.toNat : Int) ≤ 57 := by omega
        have q6 : ((c.toNat : Int) == 95) = false := by rw [beq_eq_false_iff_ne, ne_eq]; omega
        have HL := hide (show Dg.letterB c = false ∧ (k = 0 ∨ Dg.digitB c = false) from ⟨hl, Or.inr hd⟩)
        clear hl hd b0
        by_cases kz : k = 0
        · have kb : decide (k = 0) = true := decide_eq_true kz
          clear kz
          go_wp2
          go_ret
          exact ⟨ret_bool (HR.out.symm.trans (nm_bad HC.out HL.out.1 HL.out.2)).symm, rfl⟩
        · have kb : decide (k = 0) = false := decide_eq_false kz
          clear kz
          go_wp2
          go_ret
          exact ⟨ret_bool (HR.out.symm.trans (nm_bad HC.out HL.out.1 HL.out.2)).symm, rfl⟩
      · have q0 : ¬ 97 ≤ (c.toNat : Int) := by omega
        have q1 : (c.toNat : Int) ≤ 122 := by omega
        have q2 : ¬ 65 ≤ (c.toNat : Int) := by omega
        have q3 : (c.toNat : Int) ≤ 90 := by omega
        have q4 : 48 ≤ (c.toNat : Int) := by omega
        have q5 : ¬ (c.toNat : Int) ≤ 57 := by omega
        have q6 : ((c.toNat : Int) == 95) = false := by rw [beq_eq_false_iff_ne, ne_eq]; omega
        have HL := hide (show Dg.letterB c = false ∧ (k = 0 ∨ Dg.digitB c = false) from ⟨hl, Or.inr hd⟩)
        clear hl hd b0 b1
        by_cases kz : k = 0
        · have kb : decide (k = 0) = true := decide_eq_true kz
          clear kz
          go_wp2
          go_ret
          exact ⟨ret_bool (HR.out.symm.trans (nm_bad HC.out HL.out.1 HL.out.2)).symm, rfl⟩
        · have kb : decide (k = 0) = false := decide_eq_false kz
          clear kz
          go_wp2
          go_ret
          exact ⟨ret_bool (HR.out.symm.trans (nm_bad HC.out HL.out.1 HL.out.2)).symm, rfl⟩
      · have q0 : ¬ 97 ≤ (c.toNat : Int) := by omega
        have q1 : (c.toNat : Int) ≤ 122 := by omega
        have q2 : 65 ≤ (c.toNat : Int) := by omega
        have q3 : ¬ (c.toNat : Int) ≤ 90 := by omega
        have q4 : 48 ≤ (c.toNat : Int) := by omega
        have q5 : ¬ (c.toNat : Int) ≤ 57 := by omega
        have q6 : ((c.toNat : Int) == 95) = false := by rw [beq_eq_false_iff_ne, ne_eq]; omega
        have HL := hide (show Dg.letterB c = false ∧ (k = 0 ∨ Dg.digitB c = false) from ⟨hl, Or.inr hd⟩)
        clear hl hd b0 b1 b2
        by_cases kz : k = 0
        · have kb : decide (k = 0) = true := decide_eq_true kz
          clear kz
          go_wp2
          go_ret
          exact ⟨ret_bool (HR.out.symm.trans (nm_bad HC.out HL.out.1 HL.out.2)).symm, rfl⟩
        · have kb : decide (k = 0) = false := decide_eq_false kz
          clear kz
          go_wp2
          go_ret
          exact ⟨ret_bool (HR.out.symm.trans (nm_bad HC.out HL.out.1 HL.out.2)).symm, rfl⟩
      · have q0 : 97 ≤ (c.toNat : Int) := by omega
        have q1 : ¬ (c.toNat : Int) ≤ 122 := by omega
        have q2 : 65 ≤ (c.toNat : Int) := by omega
        have q3 : ¬ (c.toNat : Int) ≤ 90 := by omega
        have q4 : 48 ≤ (c.toNat : Int) := by omega
        have q5 : ¬ (c.toNat : Int) ≤ 57 := by omega
        have q6 : ((c.toNat : Int) == 95) = false := by rw [beq_eq_false_iff_ne, ne_eq]; omega
        have HL := hide (show Dg.letterB c = false ∧ (k = 0 ∨ Dg.digitB c = false) from ⟨hl, Or.inr hd⟩)
        clear hl hd b0
        by_cases kz : k = 0
        · have kb : decide (k = 0) = true := decide_eq_true kz
          clear kz
          go_wp2
          go_ret
          exact ⟨ret_bool (HR.out.symm.trans (nm_bad HC.out HL.out.1 HL.out.2)).symm, rfl⟩
        · have kb : decide (k = 0) = false := decide_eq_false kz
          clear kz
          go_wp2
          go_ret
          exact ⟨ret_bool (HR.out.symm.trans (nm_bad HC.out HL.out.1 HL.out.2)).symm, rfl⟩
    · obtain rfl : k = s.size := by omega
      have hg := nm_good hm.out
      rw [HR.out] at hg
      have HG := hide hg
      clear hg hm HR
      by_cases h0 : s.toList = []
      · have hz : s.size = 0 := by
          have := Dg.len_L s
          rw [show Dg.L s = s.toList from (Lib.toList_data s).symm, h0] at this
          exact this.symm
        have HG2 := hide (show false = R by rw [HG.out, hz]; rfl)
        have n0 : s.toList.isEmpty = true := by rw [h0]; rfl
        clear HG hz
        go_wp2
        go_ret
        exact ⟨ret_bool HG2.out, rfl⟩
      · have hz : 0 < s.size := by
          rcases Nat.eq_zero_or_pos s.size with h1 | h1
          · exact absurd (List.length_eq_zero_iff.1 (by rw [Lib.toList_data]; exact (Dg.len_L s).trans h1)) h0
          · exact h1
        have HG2 := hide (show decide ((s.size : Int) ≤ 24) = R by rw [HG.out, decide_eq_true hz, Bool.true_and, Bool.eq_iff_iff, decide_eq_true_eq, decide_eq_true_eq]; omega)
        have n0 : s.toList.isEmpty = false := by rw [Bool.eq_false_iff]; exact fun h => h0 (List.isEmpty_iff.1 h)
        clear HG hz
        go_wp2
        go_ret
        exact ⟨ret_bool HG2.out, rfl⟩
end Go.Proofs.YtobhpeockinnjaaGreatDoor
/- proper of package code: an item apart from its place. No conditions but those that each theorem states. -/
namespace Go.Proofs.YtobhpeockinnjaaGreatDoor
open Go Go.RowKit Go.Sort
def numP (r : Nat) : Bool := !((decide (48 ≤ r) && decide (r ≤ 57)) || (decide (97 ≤ r) && decide (r ≤ 122)))
theorem numC_P (c : UInt8) : Dg.numC c = !numP c.toNat := by
  unfold Dg.numC numP
  simp [UInt8.le_iff_toNat_le]
theorem get_at {s : ByteArray} {k : Nat} (h : k < s.size) : s.get! k = s[k]'h := by
  show s.data[k]! = s.data[k]
  exact getElem!_pos s.data k h
theorem decode_lo (s : ByteArray) (i : Nat) (h : (s.get! i).toNat < 128) : Utf8.decode s i = ((s.get! i).toNat, 1) := by
  unfold Utf8.decode
  simp only [Nat.add_zero]
  rw [if_pos h]
theorem decode_hi (s : ByteArray) (i : Nat) (h : 128 ≤ (s.get! i).toNat) : 128 ≤ (Utf8.decode s i).1 := by
  unfold Utf8.decode
  simp only [Nat.add_zero]
  rw [if_neg (by omega)]
  repeat' split
  all_goals (try simp only [Utf8.runeError, Bool.and_eq_true, decide_eq_true_eq, ge_iff_le] at *)
  all_goals omega
theorem numP_hi {r : Nat} (h : 128 ≤ r) : numP r = true := by
  unfold numP
  rw [show decide (r ≤ 57) = false from decide_eq_false (by omega), show decide (r ≤ 122) = false from decide_eq_false (by omega)]
  simp
theorem num_from (s : ByteArray) : ∀ (f pos : Nat), s.size - pos ≤ f → (0 ≤ Lib.idxFuncFrom numP true s f pos ↔ ∃ (j : Nat) (c : UInt8), pos ≤ j ∧ (Dg.L s)[j]? = some c ∧ Dg.numC c = false)
  | 0, pos, h => by
    rw [Lib.idxFuncFrom]
    constructor
    · intro h1; omega
    · rintro ⟨j, c, h1, h2, _⟩
      have := (List.getElem?_eq_some_iff.1 h2).1
      rw [Dg.len_L] at this
      omega
  | f + 1, pos, h => by
    rw [Lib.idxFuncFrom]
    by_cases hp : pos < s.size
    · rw [if_pos hp]
      have hc := byte_at hp
      have hg := get_at hp
      generalize s[pos] = c at *
      by_cases hlo : c.toNat < 128
      · rw [decode_lo s pos (by rw [hg]; exact hlo), hg]
        by_cases hn : numP c.toNat = true
        · rw [if_pos hn]
          exact ⟨fun _ => ⟨pos, c, Nat.le_refl _, hc, by rw [numC_P, hn]; rfl⟩, fun _ => by omega⟩
        · rw [if_neg hn, num_from s f (pos + 1) (by omega)]
          constructor
          · rintro ⟨j, d, h1, h2⟩
            exact ⟨j, d, by omega, h2⟩
          · rintro ⟨j, d, h1, h2, h3⟩
            refine ⟨j, d, ?_, h2, h3⟩
            rcases Nat.eq_or_lt_of_le h1 with e | e
            · subst e
              rw [hc] at h2
              cases h2
              rw [numC_P, Bool.eq_false_iff.2 hn] at h3
              cases h3
            · omega
      · rw [if_pos (numP_hi (decode_hi s pos (by rw [hg]; omega)))]
        exact ⟨fun _ => ⟨pos, c, Nat.le_refl _, hc, by rw [numC_P, numP_hi (by omega)]; rfl⟩, fun _ => by omega⟩
    · rw [if_neg hp]
      constructor
      · intro h1; omega
      · rintro ⟨j, c, h1, h2, _⟩
        have := (List.getElem?_eq_some_iff.1 h2).1
        rw [Dg.len_L] at this
        omega
theorem num_idx (s : ByteArray) : decide (0 ≤ Lib.idxFunc numP true s) = !((Dg.L s).all Dg.numC) := by
  have h := num_from s s.size 0 (by omega)
  rw [Bool.eq_iff_iff, decide_eq_true_eq, Lib.idxFunc, h, Bool.not_eq_true', List.all_eq_false]
  constructor
  · rintro ⟨j, c, _, h1, h2⟩
    exact ⟨c, List.mem_of_getElem? h1, by rw [h2]; simp⟩
  · rintro ⟨c, h1, h2⟩
    obtain ⟨j, hj⟩ := List.getElem?_of_mem h1
    exact ⟨j, c, Nat.zero_le _, hj, by simpa using h2⟩
theorem num_cls (x : Nat) : (x < 48 ∧ numP x = true) ∨ (48 ≤ x ∧ x ≤ 57 ∧ numP x = false) ∨ (57 < x ∧ x < 97 ∧ numP x = true) ∨ (97 ≤ x ∧ x ≤ 122 ∧ numP x = false) ∨ (122 < x ∧ numP x = true) := by
  have : numP x = !decide ((48 ≤ x ∧ x ≤ 57) ∨ (97 ≤ x ∧ x ≤ 122)) := by
    unfold numP
    simp
  rw [this]
  simp only [Bool.not_eq_true', Bool.not_eq_false', decide_eq_true_eq, decide_eq_false_iff_not]
  omega
set_option maxHeartbeats 4000000 in
theorem num_pred (w : World) : PredAtRunes Tryz.prog 152 #[] numP w := fun W x hx _ => by
  unfold FnGives
  rcases num_cls x with ⟨b0, hr⟩ | ⟨b0, b1, hr⟩ | ⟨b0, b1, hr⟩ | ⟨b0, b1, hr⟩ | ⟨b0, hr⟩
  · rw [hr]
    have q0 : ¬ 48 ≤ (x : Int) := by omega
    have q1 : (x : Int) ≤ 57 := by omega
    have q2 : ¬ 97 ≤ (x : Int) := by omega
    have q3 : (x : Int) ≤ 122 := by omega
    clear b0 hr
    go_enter Tryz.func152, Tryz.ntmps152
    go_wp2
    go_ret
    exact ⟨rfl, 0, rfl⟩
  · rw [hr]
    have q0 : 48 ≤ (x : Int) := by omega
    have q1 : (x : Int) ≤ 57 := by omega
    have q2 : ¬ 97 ≤ (x : Int) := by omega
    have q3 : (x : Int) ≤ 122 := by omega
    clear b0 hr
    go_enter Tryz.func152, Tryz.ntmps152
    go_wp2
    go_ret
    exact ⟨rfl, 0, rfl⟩
  · rw [hr]
    have q0 : 48 ≤ (x : Int) := by omega
    have q1 : ¬ (x : Int) ≤ 57 := by omega
    have q2 : ¬ 97 ≤ (x : Int) := by omega
    have q3 : (x : Int) ≤ 122 := by omega
    clear b0 hr
    go_enter Tryz.func152, Tryz.ntmps152
    go_wp2
    go_ret
    exact ⟨rfl, 0, rfl⟩
  · rw [hr]
    have q0 : 48 ≤ (x : Int) := by omega
    have q1 : ¬ (x : Int) ≤ 57 := by omega
    have q2 : 97 ≤ (x : Int) := by omega
    have q3 : (x : Int) ≤ 122 := by omega
    clear b0 hr
    go_enter Tryz.func152, Tryz.ntmps152
    go_wp2
    go_ret
    exact ⟨rfl, 0, rfl⟩
  · rw [hr]
    have q0 : 48 ≤ (x : Int) := by omega
    have q1 : ¬ (x : Int) ≤ 57 := by omega
    have q2 : 97 ≤ (x : Int) := by omega
    have q3 : ¬ (x : Int) ≤ 122 := by omega
    clear b0 hr
    go_enter Tryz.func152, Tryz.ntmps152
    go_wp2
    go_ret
    exact ⟨rfl, 0, rfl⟩
theorem emp_iff (s : ByteArray) : decide (s = Dg.nil8) = s.toList.isEmpty := by
  rw [Bool.eq_iff_iff, decide_eq_true_eq, List.isEmpty_iff, Lib.toList_data]
  constructor
  · intro h; rw [h]; rfl
  · intro h
    obtain ⟨d⟩ := s
    obtain ⟨l⟩ := d
    show (⟨⟨l⟩⟩ : ByteArray) = ⟨#[]⟩
    simp at h
    rw [h]
set_option maxHeartbeats 4000000 in
theorem item_any (x : Dg.It) (R : Bool) (hR : Dg.properI x = R) (hx : ItW x) (w : World) :
    Calls Tryz.prog 110 #[.agg #[.int .i64 x.kind, .string x.id, .string x.parent, .string x.number, .string x.north, .string x.south, .bool x.gone]] w fun e w' => e = .returned (.bool R) ∧ Below w.heap.size w w' := by
  have hb0 := Below.news (Below.refl w.heap.size w) (.cells #[.int .i64 x.kind, .string x.id, .string x.parent, .string x.number, .string x.north, .string x.south, .bool x.gone] 26)
  have hx0 := heap_alloc_new w (.cells #[.int .i64 x.kind, .string x.id, .string x.parent, .string x.number, .string x.north, .string x.south, .bool x.gone] 26)
  obtain ⟨nb, hnb⟩ : ∃ b, Dg.isNumB x.number = b := ⟨_, rfl⟩
  obtain ⟨nm, hnm⟩ : ∃ b, Dg.isNameB x.id = b := ⟨_, rfl⟩
  have hiz := hx.iz
  have hb3 : x.north.toList.isEmpty = decide (x.north = Dg.nil8) := (emp_iff _).symm
  have hb4 : x.south.toList.isEmpty = decide (x.south = Dg.nil8) := (emp_iff _).symm
  unfold Dg.properI at hR
  rw [← hb3, ← hb4, hnb, hnm] at hR
  have hnum : Dg.isNumB x.number = (decide ((x.number.size : Int) ≤ 8) && !decide (0 ≤ Lib.idxFunc numP true x.number)) := by
    rw [num_idx, Bool.not_not]
    unfold Dg.isNumB
    congr 1
    rw [Bool.eq_iff_iff, decide_eq_true_eq, decide_eq_true_eq]
    omega
  rw [hnb] at hnum
  clear hb3 hb4 hnb hx
  obtain ⟨kd, id, par, num, nor, sou, gon⟩ := x
  dsimp only at *
  have HR := hide hR; have HU := hide hnum; have HN := hide hnm
  clear hR hnum hnm
  go_enter Tryz.func110, Tryz.ntmps110
  go_upto_region 1 with (fail)
  obtain ⟨c0, c1, c2, c3, c4, c5, c6⟩ := iCells hx0
  generalize w.alloc (.cells #[.int .i64 kd, .string id, .string par, .string num, .string nor, .string sou, .bool gon] 26) = w0 at *
  generalize hg : w.heap.size = g at *
  go_cut [3] from 4 to 13 (fun v wx => v = .bool nb ∧ Below w0.heap.size w0 wx)
  case first =>
    by_cases hl : (num.size : Int) ≤ 8
    · have HU2 := hide (show (!decide (0 ≤ Lib.idxFunc numP true num)) = nb by rw [HU.out, decide_eq_true hl, Bool.true_and])
      clear HU
      go_wp2_with fail
      have ev : ∀ args w, (callFunc 152 args).run Tryz.prog w = .ok (.enter 152 args) w := enters_of Tryz.func152 (by kernel_rfl) rfl
      refine (Tryz.strings_ContainsFunc_runes 152 #[] ev numP num _ (num_pred _)).mono ?_
      rintro e w1 ⟨rfl, hb1⟩
      clear ev
      obtain ⟨z, hz⟩ : ∃ z, decide (0 ≤ Lib.idxFunc numP true num) = z := ⟨_, rfl⟩
      have HU3 := HU2.out
      rw [hz] at HU3
      rw [hz]
      clear HU2 hz
      subst HU3
      go_wp2_with fail
      go_meet
      exact ⟨rfl, hb1⟩
    · have HU2 := HU.out
      rw [decide_eq_false hl, Bool.false_and] at HU2
      subst HU2
      go_wp2_with fail
      go_meet
      exact ⟨rfl, Below.refl _ _⟩
  case rest =>
    obtain ⟨rfl, hbc⟩ := hcut
    have hrow := iNext hx0 hbc
    have hb : Below w.heap.size w wc := bnext (by rw [hg]; exact hb0) hbc
    clear hg hx0 hbc hb0 HU c0 c1 c2 c3 c4 c5 c6
    generalize wc = w2 at *
    obtain ⟨c0, c1, c2, c3, c4, c5, c6⟩ := iCells hrow
    clear hrow
    replace HR := HR.out
    by_cases k1 : kd = 1
    · rw [if_pos k1] at HR
      have k1b : (kd == 1) = true := beq_iff_eq.2 k1
      clear k1
      replace HR := hide HR
      cases nb with
      | false =>
        clear HN
        go_wp2_with fail
        go_ret
        first | exact ⟨ret_bool HR.out, hb⟩ | exact ⟨ret_bool (by rw [← HR.out]; first | exact decide_eq_false (by omega) | exact decide_eq_true (by omega)), hb⟩
      | true =>
        go_wp2_with fail
        refine (isName_any id nm HN.out hiz _).mono ?_
        rintro e w9 ⟨rfl, hw9⟩
        subst hw9
        clear HN
        cases nm with
        | false =>
          go_wp2_with fail
          go_ret
          first | exact ⟨ret_bool HR.out, hb⟩ | exact ⟨ret_bool (by rw [← HR.out]; first | exact decide_eq_false (by omega) | exact decide_eq_true (by omega)), hb⟩
        | true =>
          obtain ⟨n1, hn1⟩ : ∃ b, nor.toList.isEmpty = b := ⟨_, rfl⟩
          rw [hn1] at HR
          cases n1 with
          | false =>
            go_wp2_with fail
            go_ret
            first | exact ⟨ret_bool HR.out, hb⟩ | exact ⟨ret_bool (by rw [← HR.out]; first | exact decide_eq_false (by omega) | exact decide_eq_true (by omega)), hb⟩
          | true =>
            obtain ⟨n2, hn2⟩ : ∃ b, sou.toList.isEmpty = b := ⟨_, rfl⟩
            rw [hn2] at HR
            cases n2 with
            | false =>
              go_wp2_with fail
              go_ret
              first | exact ⟨ret_bool HR.out, hb⟩ | exact ⟨ret_bool (by rw [← HR.out]; first | exact decide_eq_false (by omega) | exact decide_eq_true (by omega)), hb⟩
            | true =>
              cases gon with
              | false =>
                go_wp2_with fail
                go_ret
                first | exact ⟨ret_bool HR.out, hb⟩ | exact ⟨ret_bool (by rw [← HR.out]; first | exact decide_eq_false (by omega) | exact decide_eq_true (by omega)), hb⟩
              | true =>
                go_wp2_with fail
                go_ret
                first | exact ⟨ret_bool HR.out, hb⟩ | exact ⟨ret_bool (by rw [← HR.out]; first | exact decide_eq_false (by omega) | exact decide_eq_true (by omega)), hb⟩
    · rw [if_neg k1] at HR
      have k1b : (kd == 1) = false := beq_eq_false_iff_ne.2 k1
      clear k1
      by_cases k2 : kd = 2
      · rw [if_pos k2] at HR
        have k2b : (kd == 2) = true := beq_iff_eq.2 k2
        clear k2
        replace HR := hide HR
        cases nb with
        | false =>
          clear HN
          go_wp2_with fail
          go_ret
          first | exact ⟨ret_bool HR.out, hb⟩ | exact ⟨ret_bool (by rw [← HR.out]; first | exact decide_eq_false (by omega) | exact decide_eq_true (by omega)), hb⟩
        | true =>
          go_wp2_with fail
          refine (isName_any id nm HN.out hiz _).mono ?_
          rintro e w9 ⟨rfl, hw9⟩
          subst hw9
          clear HN
          cases nm with
          | false =>
            go_wp2_with fail
            go_ret
            first | exact ⟨ret_bool HR.out, hb⟩ | exact ⟨ret_bool (by rw [← HR.out]; first | exact decide_eq_false (by omega) | exact decide_eq_true (by omega)), hb⟩
          | true =>
            by_cases d1 : (nor.size : Int) ≤ 400
            rotate_left
            · rw [show decide (nor.size ≤ 400) = false from decide_eq_false (by omega)] at HR
              go_wp2_with fail
              go_ret
              first | exact ⟨ret_bool HR.out, hb⟩ | exact ⟨ret_bool (by rw [← HR.out]; first | exact decide_eq_false (by omega) | exact decide_eq_true (by omega)), hb⟩
            rw [show decide (nor.size ≤ 400) = true from decide_eq_true (by omega)] at HR
            by_cases d2 : (sou.size : Int) ≤ 400
            rotate_left
            · rw [show decide (sou.size ≤ 400) = false from decide_eq_false (by omega)] at HR
              go_wp2_with fail
              go_ret
              first | exact ⟨ret_bool HR.out, hb⟩ | exact ⟨ret_bool (by rw [← HR.out]; first | exact decide_eq_false (by omega) | exact decide_eq_true (by omega)), hb⟩
            rw [show decide (sou.size ≤ 400) = true from decide_eq_true (by omega)] at HR
            go_wp2_with fail
            go_ret
            first | exact ⟨ret_bool HR.out, hb⟩ | exact ⟨ret_bool (by rw [← HR.out]; first | exact decide_eq_false (by omega) | exact decide_eq_true (by omega)), hb⟩
      · rw [if_neg k2] at HR
        have k2b : (kd == 2) = false := beq_eq_false_iff_ne.2 k2
        clear k2
        replace HR := hide HR
        clear HN
        go_wp2_with fail
        go_ret
        first | exact ⟨ret_bool HR.out, hb⟩ | exact ⟨ret_bool (by rw [← HR.out]; first | exact decide_eq_false (by omega) | exact decide_eq_true (by omega)), hb⟩
end Go.Proofs.YtobhpeockinnjaaGreatDoor
/- What is below an item of a code stands directly behind it, in plain Lean. No program in sight. -/
namespace Go.Proofs.YtobhpeockinnjaaGreatDoor.Dg
open Go
/-- The open divisions at the visits of a valid code. -/
def visits (l : List It) : List (List ByteArray) := match walkTo l l.length with | none => [] | some (vs, _) => vs
theorem valid_walk {l : List It} (h : validC l = true) : ∃ s, walkTo l l.length = some (visits l, s) ∧ l.length ≤ 2000 := by
  unfold validC at h
  rw [Bool.and_eq_true, decide_eq_true_iff] at h
  unfold visits
  cases hw : walkTo l l.length with
  | none => rw [hw] at h; cases h.1
  | some p => obtain ⟨vs, s⟩ := p; exact ⟨s, rfl, h.2⟩
/-- At a visit nothing is open but what came before; the parent is. -/
theorem visit_at {l : List It} {n : Nat} (hn : n ≤ l.length) {vs : List (List ByteArray)} {s : Wk} (h : walkTo l n = some (vs, s)) {k : Nat} (hk : k < n) : ∃ o, vs[k]? = some o ∧ (∀ x ∈ o, x ∈ (l.take k).map It.id) ∧ l[k].id ∉ (l.take k).map It.id ∧ (l[k].parent ≠ nil8 → l[k].parent ∈ o) ∧ properI l[k] = true := by
  obtain ⟨s1, h1⟩ := walk_le hn h (k + 1) (by omega)
  obtain ⟨vs0, s0, o0, w0, st0, e0⟩ := walk_step (l := l) (k := k) (by omega) h1
  have l0 := walk_len (by omega) w0
  have a0 : (vs.take (k + 1))[k]? = some o0 := by rw [e0, List.getElem?_append_right (by omega), l0]; simp
  rw [List.getElem?_take_of_lt (by omega)] at a0
  obtain ⟨b1, _, b3, _⟩ := walk_seen (by omega) w0
  obtain ⟨c0, c1, j, c2, c3, _, _⟩ := stepI_some st0
  refine ⟨o0, a0, fun x hx => ?_, ?_, fun hp => ?_, c0⟩
  · rw [c3] at hx
    have := b3 x (List.mem_of_mem_take hx)
    rw [b1] at this
    exact List.mem_reverse.1 this
  · rw [b1] at c1
    exact fun hm => c1 (List.mem_reverse.2 hm)
  · unfold kOf at c2
    rw [if_neg hp] at c2
    split at c2
    · rename_i hin
      injection c2 with c2
      rw [c3, ← c2]
      have hf : (s0.op.findIdx fun d => decide (d = l[k].parent)) < s0.op.length := List.findIdx_lt_length_of_exists ⟨_, (inB_iff _ _).1 hin, decide_eq_true rfl⟩
      have hg := List.findIdx_getElem (w := hf)
      have hg2 := of_decide_eq_true hg
      have hlt : (s0.op.findIdx fun d => decide (d = l[k].parent)) < (s0.op.take ((s0.op.findIdx fun d => decide (d = l[k].parent)) + 1)).length := by rw [List.length_take]; omega
      exact List.mem_iff_getElem.2 ⟨_, hlt, by rw [List.getElem_take]; exact hg2⟩
    · cases c2
end Go.Proofs.YtobhpeockinnjaaGreatDoor.Dg
/- walk of package code, whatever it calls. No conditions but those that each theorem states. -/
namespace Go.Proofs.YtobhpeockinnjaaGreatDoor
open Go Go.RowKit Go.Sort Go.Maps
theorem lawStr : Keyed Tryz.prog 9 := string_keyed Tryz.underlying9
theorem key_str (s : ByteArray) (hs : s.size ≤ 9223372036854775807) : keyOf Tryz.prog 9 (.string s) = some (.string s.data.toList) :=
  Go.WideMaps.keyOf_string_mk Tryz.underlying9 hs
set_option maxRecDepth 100000 in
theorem plainElem_bool_inv {v : Value} {z : DataW Unit × List MemPlace} (h : plainElem Tryz.prog 4 v = some z) : ∃ x, v = .bool x ∧ z = (.lit (.bool x), []) := by
  unfold plainElem at h
  rw [Tryz.underlying4] at h
  split at h
  · cases h; exact ⟨_, rfl, rfl⟩
  · rename_i h1; cases h1
  · rename_i h1; cases h1
  · cases h
noncomputable def rBo : Value → Option (DataW Unit × List MemPlace) := plainElem Tryz.prog 4
/-- The Ids that were seen, as the map reads. -/
noncomputable def seenS : List ByteArray → DataW Unit
  | [] => .map []
  | m :: s => (seenS s).put (.string m.data.toList) (.lit (.bool true))
theorem seenS_isMap : ∀ s, IsMap (seenS s)
  | [] => isMap_empty
  | _ :: s => (seenS_isMap s).put _ _
theorem seenS_at (m : ByteArray) : ∀ s, (seenS s).atKey (.string m.data.toList) (.lit (.bool false)) = .lit (.bool (Dg.inB s m))
  | [] => rfl
  | x :: s => by
    by_cases h : x = m
    · subst h
      rw [seenS, atKey_put_same (seenS_isMap s) (by trivial)]
      simp [Dg.inB]
    · rw [seenS, atKey_put_other (fun e => h (by
        obtain ⟨d⟩ := x; obtain ⟨d'⟩ := m
        injection e with e
        exact congrArg ByteArray.mk (Array.toList_inj.1 e.symm))), seenS_at m s]
      simp [Dg.inB, h]
set_option maxRecDepth 100000 in
theorem seenS_run {W : World} {mb N : Nat} {s : List ByteArray} (h : W.ownsMap Tryz.prog 9 rBo mb N (seenS s)) (m : ByteArray) (hm : m.size ≤ 9223372036854775807) :
    (Instr.lookup 143 (.map (some mb)) (.string m) false).run Tryz.prog W = .ok (.bool (Dg.inB s m)) W := by
  obtain ⟨v, ps, hrun, hv⟩ := h.lookup lawStr Tryz.underlying143 (z := .bool false) (by kernel_rfl) (plainElem_bool Tryz.underlying4 false) (key_str m hm)
  rw [seenS_at] at hv
  obtain ⟨x, rfl, hx⟩ := plainElem_bool_inv hv
  injection hx with hx _
  injection hx with hx
  injection hx with hx
  rw [hx]
  exact hrun
/-- What is open: a row of strings, in no block of S. -/
structure OpenAt (S : List Nat) (w : World) (A : Option Addr) (l : List ByteArray) : Prop where
  at_ : 0 < l.length → ∃ b, A = some ⟨b, 0, none⟩ ∧ b < w.heap.size ∧ b ∉ S ∧ ∀ (j : Nat) (s : ByteArray), l[j]? = some s → w.cell? ⟨b, j, none⟩ = some (.string s)
theorem OpenAt.nil (S : List Nat) (w : World) (A : Option Addr) : OpenAt S w A [] := ⟨fun h => by simp at h⟩
theorem OpenAt.strs {S : List Nat} {w : World} {A : Option Addr} {l : List ByteArray} (h : OpenAt S w A l) : Strs w w.heap.size A l :=
  ⟨fun h0 => by
    obtain ⟨b, e, hb, _, hc⟩ := h.at_ h0
    exact ⟨b, 0, e, hb, fun j s hj => by rw [Nat.zero_add]; exact hc j s hj⟩⟩
theorem OpenAt.take {S : List Nat} {w : World} {A : Option Addr} {l : List ByteArray} (h : OpenAt S w A l) (k : Nat) : OpenAt S w A (l.take k) :=
  ⟨fun h0 => by
    rw [List.length_take] at h0
    obtain ⟨b, e, hb, hn, hc⟩ := h.at_ (by omega)
    exact ⟨b, e, hb, hn, fun j s hj => hc j s (by rw [List.getElem?_take] at hj; split at hj; exact hj; cases hj)⟩⟩
theorem OpenAt.off {S T : List Nat} {w w' : World} {A : Option Addr} {l : List ByteArray} (h : OpenAt S w A l) (ho : Off S w w') (hT : ∀ g ∈ T, g ∈ S ∨ w.heap.size ≤ g) : OpenAt T w' A l :=
  ⟨fun h0 => by
    obtain ⟨b, e, hb, hn, hc⟩ := h.at_ h0
    refine ⟨b, e, Nat.lt_of_lt_of_le hb ho.size, fun hm => ?_, fun j s hj => ?_⟩
    · rcases hT b hm with h1 | h1
      · exact hn h1
      · omega
    · exact (World.cell?_of_block (w := w) (w' := w') (a := ⟨b, j, none⟩) (ho.block b hb hn)).trans (hc j s hj)⟩
theorem OpenAt.next {S : List Nat} {w w' : World} {A : Option Addr} {l : List ByteArray} (h : OpenAt S w A l) (hb : Below w.heap.size w w') : OpenAt S w' A l := h.off (Off.of_below hb) fun _ hg => Or.inl hg
/-- A new row. -/
theorem OpenAt.own {S : List Nat} {w : World} {B : Nat} {v : Value} {l : List ByteArray} (h : OwnS w B v l) (hS : ∀ g ∈ S, g < B) : ∃ A c, v = .slice A l.length c ∧ l.length ≤ c ∧ OpenAt S w A l := by
  rcases h.cases with ⟨rfl, rfl⟩ | ⟨g, cap, rfl, hB, hg, hc, hcell, _⟩
  · exact ⟨none, 0, rfl, by simp, OpenAt.nil _ _ _⟩
  · exact ⟨_, cap, rfl, hc, ⟨fun _ => ⟨g, rfl, hg, fun hm => by have := hS g hm; omega, hcell⟩⟩⟩
/-- What walk asks of the function that it calls: Inv k S W before the visit of item k: the blocks that it may write are those of S. -/
structure Visit (l : List Dg.It) (F : Nat) (lb : Array Value) (B0 n0 : Nat) (Inv : Nat → List Nat → World → Prop) : Prop where
  enters : ∀ args w, (callFunc F args).run Tryz.prog w = .ok (.enter F args) w
  stable : ∀ k S W W', Inv k S W → (∀ g ∈ S, W'.heap[g]? = W.heap[g]?) → Below n0 W W' → Inv k S W'
  lt : ∀ k S W, Inv k S W → ∀ g ∈ S, B0 ≤ g ∧ g < W.heap.size
  call : ∀ (k : Nat) (S : List Nat) (W : World) (o : List ByteArray) (A : Option Addr) (c : Nat) (vs : List (List ByteArray)) (s : Dg.Wk), k < l.length → Inv k S W → Dg.walkTo l (k + 1) = some (vs ++ [o], s) → vs.length = k →
    Strs W W.heap.size A o → o.length ≤ c → n0 ≤ W.heap.size →
    Calls Tryz.prog F (#[.int .i64 (k : Int), .slice A o.length c] ++ lb) W fun e W' => e = .returned (.tuple #[]) ∧ ∃ S', Inv (k + 1) S' W' ∧ Off S W W' ∧ ∀ g ∈ S', g ∈ S ∨ W.heap.size ≤ g
end Go.Proofs.YtobhpeockinnjaaGreatDoor
/- walk of package code, whatever it calls: the walk. No conditions but those that each theorem states. -/
namespace Go.Proofs.YtobhpeockinnjaaGreatDoor
open Go Go.RowKit Go.Sort Go.Maps
theorem idx_from (x : ByteArray) : ∀ (l : List ByteArray) (i : Nat), Lib.idxFromS l x i = if Dg.inB l x = true then ((i + l.findIdx (fun d => decide (d = x)) : Nat) : Int) else -1
  | [], i => by simp [Lib.idxFromS, Dg.inB]
  | z :: l, i => by
    by_cases h : z = x
    · subst h
      simp [Lib.idxFromS, Dg.inB, List.findIdx_cons]
    · have h2 : ¬ x = z := fun e => h e.symm
      rw [Lib.idxFromS, idx_from x l (i + 1)]
      have e1 : Dg.inB (z :: l) x = Dg.inB l x := by simp [Dg.inB, h]
      rw [e1, List.findIdx_cons, decide_eq_false h]
      simp only [h, if_false, cond_false]
      split
      · congr 1; omega
      · rfl
theorem idx_yes {l : List ByteArray} {x : ByteArray} (h : Dg.inB l x = true) : Lib.idxOfS l x = ((l.findIdx (fun d => decide (d = x)) : Nat) : Int) := by
  rw [Lib.idxOfS, idx_from, if_pos h, Nat.zero_add]
theorem idx_no {l : List ByteArray} {x : ByteArray} (h : Dg.inB l x = false) : Lib.idxOfS l x = -1 := by
  rw [Lib.idxOfS, idx_from, if_neg (by rw [h]; exact Bool.false_ne_true)]
theorem strs_cells {w : World} {b off : Nat} {l : List ByteArray} (hc : ∀ (j : Nat) (s : ByteArray), l[j]? = some s → w.cell? ⟨b, off + j, none⟩ = some (.string s)) : ∀ j, j < l.length → w.cell? ⟨b, off + j, none⟩ = some (.string (l.getD j ByteArray.empty)) := fun j hj => by
  rw [hc j l[j] (List.getElem?_eq_getElem hj), List.getD_eq_getElem?_getD, List.getElem?_eq_getElem hj]; rfl
theorem sindex_s (A : Option Addr) (n c : Nat) (l : List ByteArray) (x : ByteArray) (w : World) (hl : l.length = n) (hn : n ≤ 1099511627776) (hS : Strs w w.heap.size A l) :
    Calls Tryz.prog 111 #[.slice A n c, .string x] w fun e w' => e = .returned (.int .i64 (Lib.idxOfS l x)) ∧ w' = w := by
  subst hl
  rcases Nat.eq_zero_or_pos l.length with h0 | h0
  · obtain rfl := List.length_eq_zero_iff.1 h0
    exact Tryz.slices_Index_string_empty A c x w
  · obtain ⟨b, off, rfl, hb, hc⟩ := hS.at_ h0
    have := Tryz.slices_Index_string b off l.length c l x w (Nat.le_refl _) (by omega) (strs_cells hc)
    rw [List.take_length] at this
    exact this
theorem bad_step {l : List Dg.It} {k : Nat} (hk : k < l.length) {vs : List (List ByteArray)} {s : Dg.Wk} (h : Dg.walkTo l k = some (vs, s)) (hs : Dg.stepI s l[k] = none) : Dg.validC l = false := by
  rw [Bool.eq_false_iff]
  intro hv
  obtain ⟨s1, h1, _⟩ := Dg.valid_walk hv
  obtain ⟨s2, h2⟩ := Dg.walk_le (Nat.le_refl _) h1 (k + 1) hk
  obtain ⟨vs0, s3, o, h3, h4, _⟩ := Dg.walk_step hk h2
  rw [h] at h3
  cases h3
  rw [hs] at h4
  cases h4
theorem good_step {l : List Dg.It} {k : Nat} (hk : k < l.length) {vs : List (List ByteArray)} {s s' : Dg.Wk} {o : List ByteArray} (h : Dg.walkTo l k = some (vs, s)) (hs : Dg.stepI s l[k] = some (o, s')) : Dg.walkTo l (k + 1) = some (vs ++ [o], s') := by
  rw [Dg.walkTo_succ l k hk, h]
  simp only [hs]
theorem op_len {l : List Dg.It} : ∀ {k : Nat} (_ : k ≤ l.length) {vs : List (List ByteArray)} {s : Dg.Wk}, Dg.walkTo l k = some (vs, s) → s.op.length ≤ k
  | 0, _, vs, s, h => by
    simp only [Dg.walkTo] at h
    cases h
    exact Nat.le_refl _
  | k + 1, hk, vs, s, h => by
    obtain ⟨vs0, s0, o, h1, h2, _⟩ := Dg.walk_step hk h
    have h3 := op_len (by omega) h1
    obtain ⟨_, _, j, _, ho, _, hop⟩ := Dg.stepI_some h2
    have h4 : o.length ≤ s0.op.length := by rw [ho, List.length_take]; omega
    rw [hop]
    split
    · rw [List.length_append, List.length_singleton]; omega
    · omega
theorem kk_facts {f k m n c : Nat} (h : f + 1 = k) (hf : f < m) (hm : m ≤ n) (hn : n ≤ 1048576) (hc : m ≤ c) : wrap64 ((f : Int) + 1) = (k : Int) ∧ ((k : Int) == 0) = false ∧ k ≤ m ∧ (k : Int) ≤ (m : Int) ∧ (k : Int) ≤ (c : Int) ∧ (0 : Int) ≤ (k : Int) := by
  refine ⟨?_, beq_eq_false_iff_ne.2 (by omega), by omega, by omega, by omega, by omega⟩
  rw [IntWalk.wrap64_in _ (by omega)]
  omega
theorem step_some (s : Dg.Wk) (x : Dg.It) (h1 : Dg.properI x = true) (h2 : Dg.inB s.seen x.id = false) (k : Nat) (hk : Dg.kOf s.op x.parent = some k) : Dg.stepI s x = some (s.op.take k, ⟨x.id :: s.seen, if x.kind = 1 then s.op.take k ++ [x.id] else s.op.take k⟩) := by
  unfold Dg.stepI
  rw [if_pos ⟨h1, h2⟩, hk]
theorem step_none3 (s : Dg.Wk) (x : Dg.It) (h1 : Dg.properI x = true) (h2 : Dg.inB s.seen x.id = false) (hk : Dg.kOf s.op x.parent = none) : Dg.stepI s x = none := by
  unfold Dg.stepI
  rw [if_pos ⟨h1, h2⟩, hk]
theorem step_none1 (s : Dg.Wk) (x : Dg.It) (h1 : Dg.properI x = false) : Dg.stepI s x = none := by
  unfold Dg.stepI
  rw [if_neg (fun h => by rw [h1] at h; exact absurd h.1 Bool.false_ne_true)]
theorem step_none2 (s : Dg.Wk) (x : Dg.It) (h1 : Dg.inB s.seen x.id = true) : Dg.stepI s x = none := by
  unfold Dg.stepI
  rw [if_neg (fun h => by rw [h1] at h; exact absurd h.2 (by simp))]
theorem Off.wide {S T : List Nat} {w w' : World} (h : Off S w w') (hT : ∀ g ∈ S, g ∈ T) : Off T w w' := ⟨h.os, h.tape, h.output, h.size, fun k hk hn => h.block k hk fun hm => hn (hT k hm)⟩
theorem grown_belowN {w w' : World} (hg : w.grownBy w' none) : Below w.heap.size w w' := ⟨hg.os, hg.tape, hg.output, hg.size, fun k hk => hg.block k hk (by simp)⟩
theorem iCells0 {w : World} {g : Nat} {a0 : Value} {T : TypeId} (h : w.heap[g]? = some (.cells #[a0] T (0, 0))) : w.cell? ⟨g, 0, none⟩ = some a0 := by
  rw [cell_of_row _ _ _ _ _ (0, 0) h]; rfl
set_option maxRecDepth 100000 in
set_option maxHeartbeats 8000000 in
theorem walk_any (l : List Dg.It) (A : Option Addr) (n c : Nat) (hl : l.length = n) (hw : ∀ x ∈ l, ItW x) (hn : n ≤ 1048576) (B0 : Nat) (w : World) (hI : Its w B0 A l) (hB : B0 ≤ w.heap.size)
    (F : Nat) (lb : Array Value) (Inv : Nat → List Nat → World → Prop) (hv : Visit l F lb B0 w.heap.size Inv) (S0 : List Nat) (h0 : Inv 0 S0 w) (R : Bool) (hR : Dg.validC l = R) :
    Calls Tryz.prog 63 #[.agg #[.slice A n c], .func (.func F) #[] lb] w fun e w' => e = .returned (.bool R) ∧ ∃ k S, (R = true → k = n) ∧ Inv k S w' ∧ Off S0 w w' ∧ ∀ g ∈ S, g ∈ S0 ∨ w.heap.size ≤ g := by
  have HR := hide hR; have HW := hide hw; have HL := hide hl; have HI := hide h0; have HV := hide hv; have HT := hide hI
  have hlt0 := hide (hv.lt 0 S0 w h0)
  clear hR hw hl h0 hv hI
  have hmm := @run_makeMap Tryz.prog
  have hx1 := Below.news (Below.refl w.heap.size w) (.cells #[.slice A n c] 24)
  have hx2 := Below.news (Below.refl (w.alloc (.cells #[.slice A n c] 24)).heap.size (w.alloc (.cells #[.slice A n c] 24))) (.map #[] 0)
  have hs1 : (w.alloc (.cells #[.slice A n c] 24)).heap.size = w.heap.size + 1 := by simp
  have hmap := World.ownsMap_made (w.alloc (.cells #[.slice A n c] 24)) Tryz.prog 9 rBo
  rw [hs1] at hmap
  have hc0 : ((w.alloc (.cells #[.slice A n c] 24)).alloc (.map #[] 0)).heap[w.heap.size]? = some (.cells #[.slice A n c] 24 (0, 0)) := iNext (heap_alloc_new w _) hx2
  have hb := bnext hx1 hx2
  have hs2 : ((w.alloc (.cells #[.slice A n c] 24)).alloc (.map #[] 0)).heap.size = w.heap.size + 2 := by simp
  clear hx1 hx2
  go_enter Tryz.func63, Tryz.ntmps63
  go_upto_region 3 with (fail)
  have hcc := iCells0 hc0
  obtain ⟨W0, hW0⟩ : ∃ W, (w.alloc (.cells #[.slice A n c] 24)).alloc (.map #[] 0) = W := ⟨_, rfl⟩
  rw [hW0] at hb hmap hc0 hcc hs2 ⊢
  clear hs1 hW0 hmm
  have hB2 := hide hs2
  clear hs2
  obtain ⟨mb, hmb⟩ : ∃ m, w.heap.size + 1 = m := ⟨_, rfl⟩
  rw [hmb] at hmap ⊢
  have hS0 : Hid (∀ g ∈ S0, g < w.heap.size) := fun g hg => (hlt0.out g hg).2
  go_wp2_with fail
  clear hcc
  have hst := hide ((HV.out).stable 0 S0 w W0 HI.out (fun g hg => hb.block g (hS0.out g hg)) hb)
  have hB2' : Hid (w.heap.size + 2 ≤ W0.heap.size) := Nat.le_of_eq hB2.out.symm
  clear hB2
  have HB2 := hB2'; clear hB2'
  go_loopw [6, 14] (fun ov iv wr => ∃ (k : Nat) (vs : List (List ByteArray)) (s : Dg.Wk) (Ao : Option Addr) (co : Nat) (S : List Nat), k ≤ n ∧ iv = .int .i64 k ∧ ov = .slice Ao s.op.length co ∧ s.op.length ≤ co ∧ Hid (Dg.walkTo l k = some (vs, s)) ∧ OpenAt (mb :: S) wr Ao s.op ∧
      wr.ownsMap Tryz.prog 9 rBo mb k (seenS s.seen) ∧ Hid (Inv k S wr) ∧ Off (mb :: S0) W0 wr ∧ Hid (∀ g ∈ S, g ∈ S0 ∨ W0.heap.size ≤ g)) (fun _ iv _ => n - (intOf iv).toNat)
  case atStart => exact ⟨0, [], ⟨[], []⟩, none, 0, S0, by omega, rfl, rfl, Nat.le_refl _, rfl, OpenAt.nil _ _ _, hmap, hst, Off.refl _ _, fun g hg => Or.inl hg⟩
  case round =>
    obtain ⟨k, vs, s, Ao, co, S, hk, rfl, rfl, hco, hwt, hop, hMr, hiv, hofr, hSr⟩ := hrel
    clear hmap hst
    have hmlt := hMr.lt
    have hoff : Hid (Off S0 w wr) := (Off.of_below hb).trans hofr (fun g hg => by
      rcases List.mem_cons.1 hg with rfl | hg
      · exact Or.inr (by omega)
      · exact Or.inl hg)
    have hmS : Hid (mb ∉ S) := fun hm => by
      rcases hSr.out mb hm with h1 | h1
      · have := hS0.out mb h1; omega
      · have := HB2.out; omega
    have hop_ := hide (op_len (by rw [HL.out]; exact hk) hwt.out)
    by_cases hlt : k < n
    · have hkl : k < l.length := by rw [HL.out]; exact hlt
      have hbB : Below B0 w wr := hoff.out.below hB (fun g hg => (hlt0.out g hg).1)
      obtain ⟨b, off, rfl, hbl, hcc⟩ := (HT.out.below hbB).get hkl
      have hxw := hide (HW.out l[k] (List.getElem_mem hkl))
      have hbad := hide (fun hs => bad_step hkl hwt.out hs)
      have hgood := hide (fun o s' hs => good_step (s' := s') (o := o) hkl hwt.out hs)
      generalize l[k] = x at *
      have p0 : wr.cell? ⟨b, off + k * 7, none⟩ = some (.int .i64 x.kind) := hcc 0 _ rfl
      have p1 : wr.cell? ⟨b, off + k * 7 + 1, none⟩ = some (.string x.id) := hcc 1 _ rfl
      have p2 : wr.cell? ⟨b, off + k * 7 + 2, none⟩ = some (.string x.parent) := hcc 2 _ rfl
      have p3 : wr.cell? ⟨b, off + k * 7 + 3, none⟩ = some (.string x.number) := hcc 3 _ rfl
      have p4 : wr.cell? ⟨b, off + k * 7 + 4, none⟩ = some (.string x.north) := hcc 4 _ rfl
      have p5 : wr.cell? ⟨b, off + k * 7 + 5, none⟩ = some (.string x.south) := hcc 5 _ rfl
      have p6 : wr.cell? ⟨b, off + k * 7 + 6, none⟩ = some (.bool x.gone) := hcc 6 _ rfl
      clear hcc
      have hk0 : (0 : Int) ≤ (k : Int) := by omega
      have hkn : (k : Int) < (n : Int) := by omega
      have hx := Below.news (Below.refl wr.heap.size wr) (.cells #[.int .i64 x.kind, .string x.id, .string x.parent, .string x.number, .string x.north, .string x.south, .bool x.gone] 26)
      have hrow := heap_alloc_new wr (.cells #[.int .i64 x.kind, .string x.id, .string x.parent, .string x.number, .string x.north, .string x.south, .bool x.gone] 26)
      go_wp2_with fail
      clear p0 p1 p2 p3 p4 p5 p6
      have hxb := hide (show Off S0 w wr ∧ Inv k S wr from ⟨hoff.out, hiv.out⟩)
      have hfin : Hid (∀ W, Off [mb] wr W → ∃ k S, (false = true → k = n) ∧ Inv k S W ∧ Off S0 w W ∧ ∀ g ∈ S, g ∈ S0 ∨ w.heap.size ≤ g) := fun W hW => by
        have hsz := hoff.out.size
        have hbw : Below w.heap.size wr W := hW.below hsz (fun g hg => by rw [List.mem_singleton.1 hg]; omega)
        refine ⟨k, S, (fun h => by cases h), HV.out.stable k S wr W hiv.out (fun g hg => hW.block g (HV.out.lt k S wr hiv.out g hg).2 (fun hm => hmS.out (by rw [← List.mem_singleton.1 hm]; exact hg))) hbw, hoff.out.trans hW (fun g hg => Or.inr (by rw [List.mem_singleton.1 hg]; omega)), fun g hg => (hSr.out g hg).imp id (fun h => by have := HB2.out; omega)⟩
      clear hxb
      generalize wr.alloc (.cells #[.int .i64 x.kind, .string x.id, .string x.parent, .string x.number, .string x.north, .string x.south, .bool x.gone] 26) = w1 at *
      obtain ⟨pb, hpb⟩ : ∃ b, Dg.properI x = b := ⟨_, rfl⟩
      refine (item_any x pb hpb hxw.out _).mono ?_
      rintro e w2 ⟨rfl, hb2⟩
      have hx2 := bnext hx hb2
      have hrow2 := iNext hrow hb2
      have hM2 := ownsMap_off (S := []) hMr (Off.of_below hx2) (by simp)
      clear hrow hx hb2 hMr
      obtain ⟨c0, c1, c2, c3, c4, c5, c6⟩ := iCells hrow2
      cases pb with
      | false =>
        have hR0 := hide (show false = R by rw [← HR.out]; exact (hbad.out (step_none1 s x hpb)).symm)
        clear hpb hM2
        go_wp2
        go_ret
        exact ⟨ret_bool hR0.out, by rw [← hR0.out]; exact hfin.out _ (Off.of_below hx2)⟩
      | true =>
        have hpb' := hide hpb; clear hpb
        obtain ⟨sb, hsb⟩ : ∃ b, Dg.inB s.seen x.id = b := ⟨_, rfl⟩
        have hrun := seenS_run hM2 x.id hxw.out.iz
        rw [hsb] at hrun
        cases sb with
        | true =>
          have hR0 := hide (show false = R by rw [← HR.out]; exact (hbad.out (step_none2 s x hsb)).symm)
          clear hsb hM2
          go_wp2
          go_ret
          exact ⟨ret_bool hR0.out, by rw [← hR0.out]; exact hfin.out _ (Off.of_below hx2)⟩
        | false =>
          have hsb' := hide hsb; clear hsb
          obtain ⟨w3, hrun3, hM3, hgr⟩ := World.ownsMap.update (w := w2) hM2 lawStr Tryz.underlying143 (by unfold maxLen; omega) (key_str x.id hxw.out.iz) (plainElem_bool (H := Unit) Tryz.underlying4 true)
          have ho3 : Off [mb] wr w3 := (Off.of_below (S := [mb]) hx2).trans (T := [mb]) (Off.of_grown hgr (fun j hj => by cases hj; simp)) (fun g hg => Or.inl hg)
          have hpe : x.parent.toList.isEmpty = decide (x.parent = Dg.nil8) := (emp_iff _).symm
          have HO3 := hide ho3; clear ho3
          go_upto_region 10 with (fail)
          have hrow3 : w3.heap[wr.heap.size]? = some (.cells #[.int .i64 x.kind, .string x.id, .string x.parent, .string x.number, .string x.north, .string x.south, .bool x.gone] 26 (0, 0)) := (hgr.block _ (lt_of_block hrow2) (by intro e; cases e; omega)).trans hrow2
          have hop3 : OpenAt (mb :: S) w3 Ao s.op := hop.off (HO3.out.wide (fun g hg => by rw [List.mem_singleton.1 hg]; exact List.mem_cons_self ..)) (fun g hg => Or.inl hg)
          clear c0 c1 c2 c3 c4 c5 c6 hrun hrun3 hgr hrow2 hM2 hx2 hop
          obtain ⟨c0, c1, c2, c3, c4, c5, c6⟩ := iCells hrow3
          have hs3 := hide HO3.out.size
          by_cases hp : x.parent = Dg.nil8
          · have hko := hide (show Dg.kOf s.op x.parent = some 0 by unfold Dg.kOf; rw [if_pos hp])
            have hpb : x.parent.toList.isEmpty = true := hpe.trans (decide_eq_true hp)
            clear hpe hp
            have hop0 := hop_.out
            go_upto_region 14 with (fail)
            obtain ⟨kk, hkk⟩ : ∃ kk : Nat, kk = 0 := ⟨0, rfl⟩
            rw [show Value.int .i64 0 = Value.int .i64 (kk : Int) by rw [hkk]; rfl]
            have hko2 := hide (show Dg.kOf s.op x.parent = some kk by rw [hkk]; exact hko.out)
            clear hko
            have hko := hko2
            clear hko2
            have hk1 : kk ≤ s.op.length := by omega
            have hk1I : (kk : Int) ≤ (s.op.length : Int) := by omega
            have hk1c : (kk : Int) ≤ (co : Int) := by omega
            have hk0' : (0 : Int) ≤ (kk : Int) := by omega
            clear hkk
            have hwl := Dg.walk_len (by omega) hwt.out
            have ho_len : (s.op.take kk).length = kk := by rw [List.length_take]; omega
            have hst' := step_some s x hpb'.out hsb'.out _ hko.out
            have hwt' := hgood.out _ _ hst'
            have hbw3 : Below w.heap.size wr w3 := HO3.out.below hoff.out.size (fun g hg => by rw [List.mem_singleton.1 hg]; omega)
            have hIv3 := (HV.out).stable k S wr w3 hiv.out (fun g hg => HO3.out.block g ((HV.out).lt k S wr hiv.out g hg).2 (fun hm => hmS.out (by rw [← List.mem_singleton.1 hm]; exact hg))) hbw3
            have hnS : Hid (wr.heap.size ∉ S) := fun hm => by have := ((HV.out).lt k S wr hiv.out _ hm).2; omega
            have hopk := hop3.take kk
            have hcall := (HV.out).call k S w3 (s.op.take kk) Ao kk vs _ hkl hIv3 hwt' hwl hopk.strs (Nat.le_of_eq ho_len) (Nat.le_trans hoff.out.size hs3.out)
            rw [ho_len] at hcall
            have HC := hide hcall; have HWT := hide hwt'; have HOL := hide ho_len; have HKO := hide hko.out
            clear hcall hwt' hst' hIv3 hwl ho_len hko
            have en := (HV.out).enters
            go_wp2_with fail
            clear en
            refine HC.out.mono ?_
            rintro e w5 ⟨rfl, S', hI5, ho5, hS5⟩
            have hrow5 := ho5.row hrow3 hnS.out
            have hM5 := ownsMap_off hM3 ho5 hmS.out
            have hoff5 : Off (mb :: S0) W0 w5 := (hofr.trans HO3.out (fun g hg => Or.inl (by rw [List.mem_singleton.1 hg]; exact List.mem_cons_self ..))).trans ho5 (fun g hg => (hSr.out g hg).imp (fun h => List.mem_cons_of_mem _ h) id)
            have hS5' : Hid (∀ g ∈ S', g ∈ S0 ∨ W0.heap.size ≤ g) := fun g hg => by
              rcases hS5 g hg with h1 | h1
              · exact hSr.out g h1
              · exact Or.inr (by have := hofr.size; have := HO3.out.size; omega)
            have hop5 : OpenAt (mb :: S') w5 Ao (s.op.take kk) := hopk.off (ho5.wide (fun g hg => List.mem_cons_of_mem _ hg)) (fun g hg => by
              rcases List.mem_cons.1 hg with rfl | hg
              · exact Or.inl (List.mem_cons_self ..)
              · exact (hS5 g hg).imp (fun h => List.mem_cons_of_mem _ h) id)
            have hsz5 := hide ho5.size
            have hI5' := hide hI5
            have hlt5 := hide ((HV.out).lt _ _ _ hI5)
            clear c0 c1 c2 c3 c4 c5 c6 hrow3 hM3 ho5 hS5 hop3 hopk hI5 HC
            obtain ⟨c0, c1, c2, c3, c4, c5, c6⟩ := iCells hrow5
            have hM6 : w5.ownsMap Tryz.prog 9 rBo mb (k + 1) (seenS (x.id :: s.seen)) := hM5
            clear hM5
            by_cases hkd : x.kind = 1
            · have kb : (x.kind == 1) = true := beq_iff_eq.2 hkd
              have HWT2 := HWT.out
              rw [if_pos hkd] at HWT2
              have HW3 := hide HWT2
              clear hkd HWT HWT2 hrow5
              obtain ⟨ti, ti1, ti2, ti3, ti4⟩ := info_parts strInfo
              have TI := hide (And.intro ti1 (And.intro ti2 (And.intro ti3 ti4)))
              clear ti1 ti2 ti3 ti4
              have hnone : Hid (Ao = none → kk = 0 ∧ kk = 0) := fun e => by
                rcases Nat.eq_zero_or_pos kk with h0 | h0
                · exact ⟨h0, h0⟩
                · obtain ⟨b', e', _⟩ := hop5.at_ (by rw [HOL.out]; exact h0)
                  rw [e] at e'
                  cases e'
              have hol : Hid (∀ b', Ao = some b' → ∀ (j : Nat) u, ((s.op.take kk).map Value.string)[j]? = some u → (w5.alloc (.cells #[.string x.id] 9)).cell? (b'.add j) = some u) := fun b' e j u hj => by
                rw [List.getElem?_map] at hj
                cases hq : (s.op.take kk)[j]? with
                | none => rw [hq] at hj; cases hj
                | some z =>
                  rw [hq] at hj
                  cases hj
                  obtain ⟨b2, e2, hb2, _, hc2⟩ := hop5.at_ (by have := (List.getElem?_eq_some_iff.1 hq).1; omega)
                  rw [e] at e2
                  cases e2
                  have := hc2 j z hq
                  rw [← this]
                  rw [addr_off, Nat.zero_add]
                  exact World.cell?_of_block (Below.heap_alloc _ _ _ hb2)
              go_wp2_with (at_builtin; refine wpList_append_grows _ rfl (.tmp 52) (.tmp 55) _ rfl _ ti _ 1 16 Tryz.underlying27 TI.out.1 TI.out.2.1 TI.out.2.2.1 TI.out.2.2.2 rfl (by decide) Ao kk kk ((s.op.take kk).map Value.string) rfl hnone.out (by rw [List.length_map, HOL.out, Nat.mul_one]) hol.out ⟨w5.heap.size, 0, none⟩ 1 1 [.string x.id] rfl rfl (fun j u hj => by
                  cases j with
                  | zero => cases hj; exact cell_of_row _ _ _ _ _ (0, 0) (heap_alloc_new w5 _)
                  | succ j => cases hj) (fun u hu => by rw [List.mem_singleton.1 hu]; rfl) (by omega) (by unfold maxLen; omega) (by omega) ?_; intro v6 w6 hown6 hg6)
              have hown : OwnS w6 (w5.alloc (.cells #[.string x.id] 9)).heap.size v6 (s.op.take kk ++ [x.id]) := by
                unfold OwnS OwnV
                rw [List.map_append, List.length_append, List.length_map, HOL.out]
                exact hown6
              have hx6 : Below w5.heap.size w5 w6 := (Below.news (Below.refl w5.heap.size w5) (.cells #[.string x.id] 9)).trans ((grown_belowN hg6).mono (by simp))
              obtain ⟨A6, c6', rfl, hc6, hop6⟩ := OpenAt.own (S := mb :: S') hown (fun g hg => by
                have h1 : (w5.alloc (.cells #[.string x.id] 9)).heap.size = w5.heap.size + 1 := by simp
                rw [h1]
                rcases List.mem_cons.1 hg with rfl | hg
                · have := hsz5.out; have := hs3.out; omega
                · have := (hlt5.out g hg).2; omega)
              have hlen6 : (s.op.take kk ++ [x.id]).length = kk + 1 := by rw [List.length_append, HOL.out]; rfl
              have hM7 := ownsMap_off (S := []) hM6 (Off.of_below hx6) (by simp)
              have hI7 := hide ((HV.out).stable (k + 1) S' w5 w6 hI5'.out (fun g hg => hx6.block g (hlt5.out g hg).2) (hx6.mono (by have := hoff.out.size; have := hs3.out; have := hsz5.out; omega)))
              have hoff7 := hoff5.next hx6
              clear hown6 hown hg6
              go_roundw
              case rel => exact ⟨k + 1, _, _, A6, c6', S', by omega, by go_num, by first | rfl | (rw [hlen6]), hc6, HW3, hop6, hM7, hI7, hoff7, hS5'⟩
              case measure => simp [intOf]; omega
            · have kb : (x.kind == 1) = false := beq_eq_false_iff_ne.2 hkd
              have HWT2 := HWT.out
              rw [if_neg hkd] at HWT2
              have HW3 := hide HWT2
              clear hkd HWT HWT2 hrow5
              go_wp2
              go_roundw
              case rel => exact ⟨k + 1, _, _, Ao, kk, S', by omega, by go_num, by rw [HOL.out], by rw [HOL.out]; exact Nat.le_refl _, HW3, hop5, hM6, hI5', hoff5, hS5'⟩
              case measure => simp [intOf]; omega
          · have hpb : x.parent.toList.isEmpty = false := hpe.trans (decide_eq_false hp)
            clear hpe
            obtain ⟨ib, hib⟩ : ∃ b, Dg.inB s.op x.parent = b := ⟨_, rfl⟩
            go_wp2_with fail
            refine (sindex_s Ao s.op.length co s.op x.parent _ rfl (by have := hop_.out; omega) hop3.strs).mono ?_
            rintro e w4 ⟨rfl, hw4⟩
            rw [hw4]
            clear hw4
            cases ib with
            | false =>
              have hR0 := hide (show false = R by rw [← HR.out]; exact (hbad.out (step_none3 s x hpb'.out hsb'.out (by unfold Dg.kOf; rw [if_neg hp, hib]; rfl))).symm)
              rw [idx_no hib]
              clear hib hp hM3
              go_wp2
              go_ret
              exact ⟨ret_bool hR0.out, by rw [← hR0.out]; exact hfin.out _ HO3.out⟩
            | true =>
              rw [idx_yes hib]
              have hko := hide (show Dg.kOf s.op x.parent = some (s.op.findIdx (fun d => decide (d = x.parent)) + 1) by unfold Dg.kOf; rw [if_neg hp, if_pos hib])
              have hfi : s.op.findIdx (fun d => decide (d = x.parent)) < s.op.length := by
                refine List.findIdx_lt_length_of_exists ?_
                exact ⟨x.parent, (Dg.inB_iff _ _).1 hib, decide_eq_true rfl⟩
              generalize s.op.findIdx (fun d => decide (d = x.parent)) = fi at *
              clear hib hp
              have hop0 := hop_.out
              obtain ⟨kk, hkk⟩ : ∃ kk, fi + 1 = kk := ⟨_, rfl⟩
              obtain ⟨hwf, hne, hk1, hk1I, hk1c, hk0'⟩ := kk_facts hkk hfi hop0 (Nat.le_trans hk hn) hco
              rw [hkk] at hko
              clear hkk hfi
              have hwl := Dg.walk_len (by omega) hwt.out
              have ho_len : (s.op.take kk).length = kk := by rw [List.length_take]; omega
              have hst' := step_some s x hpb'.out hsb'.out _ hko.out
              have hwt' := hgood.out _ _ hst'
              have hbw3 : Below w.heap.size wr w3 := HO3.out.below hoff.out.size (fun g hg => by rw [List.mem_singleton.1 hg]; omega)
              have hIv3 := (HV.out).stable k S wr w3 hiv.out (fun g hg => HO3.out.block g ((HV.out).lt k S wr hiv.out g hg).2 (fun hm => hmS.out (by rw [← List.mem_singleton.1 hm]; exact hg))) hbw3
              have hnS : Hid (wr.heap.size ∉ S) := fun hm => by have := ((HV.out).lt k S wr hiv.out _ hm).2; omega
              have hopk := hop3.take kk
              have hcall := (HV.out).call k S w3 (s.op.take kk) Ao kk vs _ hkl hIv3 hwt' hwl hopk.strs (Nat.le_of_eq ho_len) (Nat.le_trans hoff.out.size hs3.out)
              rw [ho_len] at hcall
              have HC := hide hcall; have HWT := hide hwt'; have HOL := hide ho_len; have HKO := hide hko.out
              clear hcall hwt' hst' hIv3 hwl ho_len hko
              have en := (HV.out).enters
              go_wp2_with fail
              clear en
              refine HC.out.mono ?_
              rintro e w5 ⟨rfl, S', hI5, ho5, hS5⟩
              have hrow5 := ho5.row hrow3 hnS.out
              have hM5 := ownsMap_off hM3 ho5 hmS.out
              have hoff5 : Off (mb :: S0) W0 w5 := (hofr.trans HO3.out (fun g hg => Or.inl (by rw [List.mem_singleton.1 hg]; exact List.mem_cons_self ..))).trans ho5 (fun g hg => (hSr.out g hg).imp (fun h => List.mem_cons_of_mem _ h) id)
              have hS5' : Hid (∀ g ∈ S', g ∈ S0 ∨ W0.heap.size ≤ g) := fun g hg => by
                rcases hS5 g hg with h1 | h1
                · exact hSr.out g h1
                · exact Or.inr (by have := hofr.size; have := HO3.out.size; omega)
              have hop5 : OpenAt (mb :: S') w5 Ao (s.op.take kk) := hopk.off (ho5.wide (fun g hg => List.mem_cons_of_mem _ hg)) (fun g hg => by
                rcases List.mem_cons.1 hg with rfl | hg
                · exact Or.inl (List.mem_cons_self ..)
                · exact (hS5 g hg).imp (fun h => List.mem_cons_of_mem _ h) id)
              have hsz5 := hide ho5.size
              have hI5' := hide hI5
              have hlt5 := hide ((HV.out).lt _ _ _ hI5)
              clear c0 c1 c2 c3 c4 c5 c6 hrow3 hM3 ho5 hS5 hop3 hopk hI5 HC
              obtain ⟨c0, c1, c2, c3, c4, c5, c6⟩ := iCells hrow5
              have hM6 : w5.ownsMap Tryz.prog 9 rBo mb (k + 1) (seenS (x.id :: s.seen)) := hM5
              clear hM5
              by_cases hkd : x.kind = 1
              · have kb : (x.kind == 1) = true := beq_iff_eq.2 hkd
                have HWT2 := HWT.out
                rw [if_pos hkd] at HWT2
                have HW3 := hide HWT2
                clear hkd HWT HWT2 hrow5
                obtain ⟨ti, ti1, ti2, ti3, ti4⟩ := info_parts strInfo
                have TI := hide (And.intro ti1 (And.intro ti2 (And.intro ti3 ti4)))
                clear ti1 ti2 ti3 ti4
                have hnone : Hid (Ao = none → kk = 0 ∧ kk = 0) := fun e => by
                  rcases Nat.eq_zero_or_pos kk with h0 | h0
                  · exact ⟨h0, h0⟩
                  · obtain ⟨b', e', _⟩ := hop5.at_ (by rw [HOL.out]; exact h0)
                    rw [e] at e'
                    cases e'
                have hol : Hid (∀ b', Ao = some b' → ∀ (j : Nat) u, ((s.op.take kk).map Value.string)[j]? = some u → (w5.alloc (.cells #[.string x.id] 9)).cell? (b'.add j) = some u) := fun b' e j u hj => by
                  rw [List.getElem?_map] at hj
                  cases hq : (s.op.take kk)[j]? with
                  | none => rw [hq] at hj; cases hj
                  | some z =>
                    rw [hq] at hj
                    cases hj
                    obtain ⟨b2, e2, hb2, _, hc2⟩ := hop5.at_ (by have := (List.getElem?_eq_some_iff.1 hq).1; omega)
                    rw [e] at e2
                    cases e2
                    have := hc2 j z hq
                    rw [← this]
                    rw [addr_off, Nat.zero_add]
                    exact World.cell?_of_block (Below.heap_alloc _ _ _ hb2)
                go_wp2_with (at_builtin; refine wpList_append_grows _ rfl (.tmp 52) (.tmp 55) _ rfl _ ti _ 1 16 Tryz.underlying27 TI.out.1 TI.out.2.1 TI.out.2.2.1 TI.out.2.2.2 rfl (by decide) Ao kk kk ((s.op.take kk).map Value.string) rfl hnone.out (by rw [List.length_map, HOL.out, Nat.mul_one]) hol.out ⟨w5.heap.size, 0, none⟩ 1 1 [.string x.id] rfl rfl (fun j u hj => by
                    cases j with
                    | zero => cases hj; exact cell_of_row _ _ _ _ _ (0, 0) (heap_alloc_new w5 _)
                    | succ j => cases hj) (fun u hu => by rw [List.mem_singleton.1 hu]; rfl) (by omega) (by unfold maxLen; omega) (by omega) ?_; intro v6 w6 hown6 hg6)
                have hown : OwnS w6 (w5.alloc (.cells #[.string x.id] 9)).heap.size v6 (s.op.take kk ++ [x.id]) := by
                  unfold OwnS OwnV
                  rw [List.map_append, List.length_append, List.length_map, HOL.out]
                  exact hown6
                have hx6 : Below w5.heap.size w5 w6 := (Below.news (Below.refl w5.heap.size w5) (.cells #[.string x.id] 9)).trans ((grown_belowN hg6).mono (by simp))
                obtain ⟨A6, c6', rfl, hc6, hop6⟩ := OpenAt.own (S := mb :: S') hown (fun g hg => by
                  have h1 : (w5.alloc (.cells #[.string x.id] 9)).heap.size = w5.heap.size + 1 := by simp
                  rw [h1]
                  rcases List.mem_cons.1 hg with rfl | hg
                  · have := hsz5.out; have := hs3.out; omega
                  · have := (hlt5.out g hg).2; omega)
                have hlen6 : (s.op.take kk ++ [x.id]).length = kk + 1 := by rw [List.length_append, HOL.out]; rfl
                have hM7 := ownsMap_off (S := []) hM6 (Off.of_below hx6) (by simp)
                have hI7 := hide ((HV.out).stable (k + 1) S' w5 w6 hI5'.out (fun g hg => hx6.block g (hlt5.out g hg).2) (hx6.mono (by have := hoff.out.size; have := hs3.out; have := hsz5.out; omega)))
                have hoff7 := hoff5.next hx6
                clear hown6 hown hg6
                go_roundw
                case rel => exact ⟨k + 1, _, _, A6, c6', S', by omega, by go_num, by first | rfl | (rw [hlen6]), hc6, HW3, hop6, hM7, hI7, hoff7, hS5'⟩
                case measure => simp [intOf]; omega
              · have kb : (x.kind == 1) = false := beq_eq_false_iff_ne.2 hkd
                have HWT2 := HWT.out
                rw [if_neg hkd] at HWT2
                have HW3 := hide HWT2
                clear hkd HWT HWT2 hrow5
                go_wp2
                go_roundw
                case rel => exact ⟨k + 1, _, _, Ao, kk, S', by omega, by go_num, by rw [HOL.out], by rw [HOL.out]; exact Nat.le_refl _, HW3, hop5, hM6, hI5', hoff5, hS5'⟩
                case measure => simp [intOf]; omega
    · obtain rfl : k = n := by omega
      have hrow := hofr.row hc0 (fun hm => by
        rcases List.mem_cons.1 hm with e | e
        · omega
        · have := hS0.out _ e; omega)
      have hcc := iCells0 hrow
      have hRR := hide (show decide ((k : Int) ≤ 2000) = R by
        rw [← HR.out]
        unfold Dg.validC
        rw [HL.out, hwt.out, Option.isSome_some, Bool.true_and, Bool.eq_iff_iff, decide_eq_true_eq, decide_eq_true_eq]
        omega)
      clear hrow hop hMr
      go_wp2
      go_ret
      exact ⟨ret_bool hRR.out, k, S, fun _ => rfl, hiv.out, hoff.out, fun g hg => (hSr.out g hg).imp id (fun h => by have := HB2.out; omega)⟩
end Go.Proofs.YtobhpeockinnjaaGreatDoor
/- A region that draws its order, in the body of a range over a function: it goes by the plain laws. No conditions. -/
namespace Go.Proofs.YtobhpeockinnjaaGreatDoor
open Go
section
variable {P : Program} {ops : Array Oper} {Q : Exit → Act → World → Prop} {md : Region.Mode}
theorem rows_wide {l n : Nat} {row : String} {args : Array Value} {w : World} {R : Value → World → Prop} (h : Rows P row args w R) : RowsIn (Fence.wide.inRound l) n P row args w R := fun c cs _ => by
  obtain ⟨v, w', r, s⟩ := h c cs
  exact ⟨v, w', r, (stepsIn_wide (P := P)).2 s⟩
theorem oper_round {l n : Nat} {o : Oper} {a : Act} {w : World} {K : Act → World → Prop} (hd : ∀ c, o.op ≠ .defer c) (h : o.wp P a w K Q) : o.wpIn (Fence.wide.inRound l) n P a w K Q := by
  unfold Oper.wpIn
  refine ⟨fun _ _ => trivial, ?_⟩
  rw [Oper.semAt_eq _ _ _ hd]
  unfold Oper.wp at h
  generalize (execOp a.eval o).run P w = r at *
  cases r with
  | ok x w' =>
    cases x <;> simp only [Oper.upon, Oper.uponIn] at h ⊢ <;>
      first
        | exact h
        | exact ⟨fun h => (by cases h), CallsIn.inRound l (callsIn_wide.2 h)⟩
        | exact ⟨fun h => (by cases h), rows_wide h⟩
  | halt x w' => cases x <;> simp only [Oper.upon, Oper.uponIn] at h ⊢ <;> exact h
theorem wpOp_round {l n i : Nat} {a : Act} {w : World} {K K' : Act → World → Prop} (hd : ∀ o c, ops[i]? = some o → o.op ≠ .defer c) (hQ : ¬ LetsOut Q) (hK : ∀ a w, K a w → K' a w) (h : wpOp P ops Q i K a w) : wpOpIn (Fence.wide.inRound l) n P ops Q i K' a w := by
  unfold wpOp at h
  unfold wpOpIn
  cases ho : ops[i]? with
  | none => simp only [ho] at h ⊢; exact hK _ _ h
  | some o =>
    simp only [ho] at h ⊢
    split
    · rename_i hw
      simp only [hw, if_true] at h
      rcases h with h | h
      · exact Oper.wpIn_mono hK (oper_round (hd o · ho) h)
      · exact absurd h.2 hQ
    · rename_i hw
      simp only [hw] at h
      exact ⟨fun _ _ => trivial, hK _ _ h⟩
theorem wpAny_round {l n : Nat} (hd : ∀ (i : Nat) o c, ops[i]? = some o → o.op ≠ .defer c) (hQ : ¬ LetsOut Q) : ∀ (fuel : Nat) (listed : Array Bool) (a : Act) (w : World), wpAny P md ops Q fuel listed a w → wpAnyIn (Fence.wide.inRound l) n P md ops Q fuel listed a w
  | 0, _, _, _, h => h
  | fuel + 1, _, _, _, h => ⟨h.1, fun i hi => wpOp_round (hd i) hQ (fun a' w' h' => wpAny_round hd hQ fuel _ a' w' h') (h.2 i hi)⟩
def noDefer (ops : Array Oper) : Bool := ops.all fun o => match o.op with | .defer _ => false | _ => true
theorem noDefer_spec (h : noDefer ops = true) (i : Nat) (o : Oper) (c : Call) (ho : ops[i]? = some o) : o.op ≠ .defer c := fun e => by
  unfold noDefer at h
  have := Array.all_eq_true.1 h i (Array.getElem?_eq_some_iff.1 ho).1
  rw [(Array.getElem?_eq_some_iff.1 ho).2, e] at this
  exact Bool.noConfusion this
end
end Go.Proofs.YtobhpeockinnjaaGreatDoor
/- A region that draws its order and stores, as its last doing, into a cell that it loads before ('x = append(x, f(y))'): the loads are taken first, under a condition that is asked only till operation k has come up, which waits for them. In a plain body, and in the body of a range over a function. No conditions. -/
namespace Go.Proofs.YtobhpeockinnjaaGreatDoor
open Go Go.RowKit
theorem below_undrew {B : Nat} {W W' : World} (h : Below B W.drew W') : Below B W W' := ⟨h.os, h.tape, h.output, h.size, h.block⟩
section
variable {P : Program} {ops : Array Oper} {Q : Exit → Act → World → Prop} {md : Region.Mode} {S : World → Prop} {k : Nat}
def closedB (md : Region.Mode) (ops : Array Oper) (listed : Array Bool) : Bool :=
  (List.range ops.size).all fun j => !listed.getD j false || (match ops[j]? with | none => true | some o => o.after.all fun e => !Region.binds md e || listed.getD e.on false)
def waitsF (md : Region.Mode) (ops : Array Oper) : Nat → Nat → Nat → Bool
  | 0, _, _ => false
  | f + 1, k, i => match ops[k]? with | none => false | some o => o.after.any fun e => Region.binds md e && (e.on == i || waitsF md ops f e.on i)
theorem closed_spec {listed : Array Bool} (h : closedB md ops listed = true) {j : Nat} {o : Oper} (ho : ops[j]? = some o) (hj : listed.getD j false = true) : ∀ e ∈ o.after, Region.binds md e = true → listed.getD e.on false = true := fun e he hb => by
  unfold closedB at h
  have h1 := List.all_eq_true.1 h j (List.mem_range.2 (Array.getElem?_eq_some_iff.1 ho).1)
  rw [ho, hj] at h1
  simp only [Bool.not_true, Bool.false_or] at h1
  have h2 := Array.all_eq_true'.1 h1 e he
  rw [hb] at h2
  simpa using h2
theorem ready_after {listed : Array Bool} {j : Nat} {o : Oper} (ho : ops[j]? = some o) (hj : j ∈ Region.ready md ops listed) : ∀ e ∈ o.after, Region.binds md e = true → listed.getD e.on false = true := fun e he hb => by
  obtain ⟨_, o', ho', hall⟩ := mem_ready.1 hj
  obtain rfl : o = o' := Option.some.inj (ho.symm.trans ho')
  exact hall e he hb
theorem getD_set_same {listed : Array Bool} {j : Nat} (d : Bool) (h : j < listed.size) : (listed.setIfInBounds j true).getD j d = true := by
  simp [Array.getD, h]
theorem getD_false_true {listed : Array Bool} {j : Nat} (h : listed.getD j true = false) : listed.getD j false = false := by
  rcases Nat.lt_or_ge j listed.size with h1 | h1
  · simp [h1] at h ⊢; exact h
  · simp [Nat.not_lt.2 h1] at h
theorem closed_set {listed : Array Bool} (h : closedB md ops listed = true) {j : Nat} (hj : j ∈ Region.ready md ops listed) : closedB md ops (listed.setIfInBounds j true) = true := by
  unfold closedB
  refine List.all_eq_true.2 fun i hi => ?_
  have hmono : ∀ n, listed.getD n false = true → (listed.setIfInBounds j true).getD n false = true := fun n hn => by
    by_cases hjn : j = n
    · subst hjn
      refine getD_set_same _ ?_
      rcases Nat.lt_or_ge j listed.size with h' | h'
      · exact h'
      · simp [Nat.not_lt.2 h'] at hn
    · rw [getD_set_ne false hjn]; exact hn
  cases ho : ops[i]? with
  | none => simp
  | some o =>
    cases hl : (listed.setIfInBounds j true).getD i false with
    | false => simp
    | true =>
      simp only [Bool.not_true, Bool.false_or]
      refine Array.all_eq_true'.2 fun e he => ?_
      cases hb : Region.binds md e with
      | false => simp
      | true =>
        simp only [Bool.not_true, Bool.false_or]
        refine hmono _ ?_
        by_cases hji : j = i
        · subst hji; exact ready_after ho hj e he hb
        · rw [getD_set_ne false hji] at hl
          exact closed_spec h ho hl e he hb
theorem waits_spec {listed : Array Bool} (h : closedB md ops listed = true) : ∀ (f k i : Nat), waitsF md ops f k i = true → (∀ o, ops[k]? = some o → ∀ e ∈ o.after, Region.binds md e = true → listed.getD e.on false = true) → listed.getD i false = true
  | 0, _, _, hw, _ => by cases hw
  | f + 1, k, i, hw, hk => by
    unfold waitsF at hw
    cases ho : ops[k]? with
    | none => rw [ho] at hw; cases hw
    | some o =>
      rw [ho] at hw
      obtain ⟨e, he, hb⟩ := Array.any_eq_true'.1 hw
      rw [Bool.and_eq_true, Bool.or_eq_true] at hb
      have h1 := hk o ho e he hb.1
      rcases hb.2 with h2 | h2
      · rw [beq_iff_eq] at h2; rw [← h2]; exact h1
      · exact waits_spec h f e.on i h2 (fun o' ho' => closed_spec h ho' h1)
/-- S is asked till operation k has come up. -/
def SL (S : World → Prop) (k : Nat) (listed : Array Bool) (w : World) : Prop := listed.getD k false = true ∨ S w
def wpAnyL (P : Program) (md : Region.Mode) (ops : Array Oper) (Q : Exit → Act → World → Prop) (S : World → Prop) (k : Nat) : Nat → Array Bool → Act → World → Prop
  | 0, listed, a, w => Region.ready md ops listed = [] ∧ Q .normal a w
  | fuel + 1, listed, a, w =>
    (Region.ready md ops listed = [] → Q .normal a w) ∧
    ∀ i ∈ Region.ready md ops listed, wpOp P ops Q i (fun a' w' => SL S k (listed.setIfInBounds i true) w' ∧ wpAnyL P md ops Q S k fuel (listed.setIfInBounds i true) a' w') a w
theorem wpAny_of_L : ∀ (fuel : Nat) (listed : Array Bool) (a : Act) (w : World), wpAnyL P md ops Q S k fuel listed a w → wpAny P md ops Q fuel listed a w
  | 0, _, _, _, h => h
  | fuel + 1, _, _, _, h => ⟨h.1, fun i hi => wpOp_mono (fun a' w' h' => wpAny_of_L fuel _ a' w' h'.2) (h.2 i hi)⟩
theorem wpAnyL_first {i f0 : Nat} {oi : Oper} {v : Value} (hi : ops[i]? = some oi) (hsel : ∀ (j : Nat) (o : Oper) cs b, ops[j]? = some o → o.op ≠ .select cs b)
    (hQ : ∀ c a w, Q (.panic c) (a.put oi.dst v) w → Q (.panic c) a w) (hk : waitsF md ops f0 k i = true ∨ ops.size ≤ k) :
    ∀ (fuel : Nat) (listed : Array Bool) (a : Act) (w : World),
      (∀ j oj, ops[j]? = some oj → j ≠ i → listed.getD j true = false → (∀ e ∈ oj.after, Region.binds md e = true → e.on ≠ i) → oi.apart ops oj = true) →
      i ∈ Region.ready md ops listed → closedB md ops listed = true → listed.getD k false = false → YieldsIf P ops S oi v a → S w →
      wpAnyL P md ops Q S k fuel (listed.setIfInBounds i true) (a.put oi.dst v) w → wpAnyL P md ops Q S k (fuel + 1) listed a w := by
  intro fuel
  induction fuel with
  | zero =>
    intro listed a w _ hr _ _ hy hS H
    refine ⟨fun h => (by rw [h] at hr; cases hr), fun j hj => ?_⟩
    by_cases hji : j = i
    · subst hji; exact hy.wpOp hi hS ⟨Or.inr hS, H⟩
    · have := ready_mono hj hji
      rw [H.1] at this
      cases this
  | succ fuel ih =>
    intro listed a w hfree hr hcl hlk hy hS H
    refine ⟨fun h => (by rw [h] at hr; cases hr), fun j hj => ?_⟩
    by_cases hji : j = i
    · subst hji; exact hy.wpOp hi hS ⟨Or.inr hS, H⟩
    · have hiu := getD_false_true (mem_ready.1 hr).1
      have hall' : ∀ j, j ∈ Region.ready md ops listed → j ≠ k := fun j hj e => by
        subst e
        rcases hk with hk | hk
        · have := waits_spec hcl f0 j i hk (fun o ho => ready_after ho hj)
          rw [hiu] at this
          cases this
        · obtain ⟨_, o, ho, _⟩ := mem_ready.1 hj
          have := (Array.getElem?_eq_some_iff.1 ho).1
          omega
      have hjk := hall' j hj
      have hik := hall' i hr
      have h1 := H.2 j (ready_mono hj hji)
      obtain ⟨hjun, oj, hoj, hall⟩ := mem_ready.1 hj
      have hnot : ∀ e ∈ oj.after, Region.binds md e = true → e.on ≠ i := fun e he hb heq => by
        have h1 := hall e he hb
        rw [heq, hiu] at h1
        cases h1
      have h2 := wpOp_putIf hoj (hfree j oj hoj hji hjun hnot) (fun cs b => hsel i oi cs b hi) (fun cs b => hsel j oj cs b hoj) hQ hy h1
      have hfree' : ∀ n on, ops[n]? = some on → n ≠ i → (listed.setIfInBounds j true).getD n true = false →
          (∀ e ∈ on.after, Region.binds md e = true → e.on ≠ i) → oi.apart ops on = true := fun n on hn hni hun hno => by
        refine hfree n on hn hni ?_ hno
        by_cases hjn : j = n
        · subst hjn; exact hjun
        · rw [getD_set_ne true hjn] at hun; exact hun
      refine wpOp_mono (fun a' w' h3 => ?_) h2
      have hlk' : (listed.setIfInBounds j true).getD k false = false := by rw [getD_set_ne false hjk]; exact hlk
      have hS' : S w' := by
        rcases h3.2.1 with h4 | h4
        · rw [getD_set_ne false hjk, getD_set_ne false hik, hlk] at h4
          cases h4
        · exact h4
      refine ⟨Or.inr hS', ih (listed.setIfInBounds j true) a' w' hfree' (ready_mono hr (Ne.symm hji)) (closed_set hcl hj) hlk' h3.1 hS' ?_⟩
      rw [Array.setIfInBounds_comm _ _ hji]
      exact h3.2.2
theorem wpAnyL_take {i f0 : Nat} {oi : Oper} {v : Value} {fuel : Nat} {listed : Array Bool} {a : Act} {w : World} (hi : ops[i]? = some oi)
    (hs : Region.noSelect ops = true) (hf : Region.free md ops listed i = true) (hr : (Region.ready md ops listed).contains i = true)
    (hk : (waitsF md ops f0 k i || decide (ops.size ≤ k)) = true) (hcl : (closedB md ops listed && !listed.getD k false) = true)
    (hQ : ∀ c a w, Q (.panic c) (a.put oi.dst v) w → Q (.panic c) a w) (hy : YieldsIf P ops S oi v a) (hS : S w)
    (h : wpAnyL P md ops Q S k fuel (listed.setIfInBounds i true) (a.put oi.dst v) w) : wpAnyL P md ops Q S k (fuel + 1) listed a w := by
  rw [Bool.and_eq_true] at hcl
  rw [Bool.or_eq_true, decide_eq_true_eq] at hk
  exact wpAnyL_first hi (Region.noSelect_spec hs) hQ hk fuel listed a w (Region.free_spec hi hf) (by simpa using hr) hcl.1 (by simpa using hcl.2) hy hS h
/-- The one operation that may come up comes up. -/
theorem wpAnyL_one {i : Nat} {o : Oper} {fuel : Nat} {listed : Array Bool} {a : Act} {w : World} (hr : Region.ready md ops listed = [i]) (ho : ops[i]? = some o)
    (h : ∀ K' : Act → World → Prop, Hid (∀ a w, SL S k (listed.setIfInBounds i true) w → wpAnyL P md ops Q S k fuel (listed.setIfInBounds i true) a w → K' a w) → if Region.wanted o (yielded ops a.tmps) = true then Oper.wp P o a w K' Q else K' (a.put o.dst undef) w) : wpAnyL P md ops Q S k (fuel + 1) listed a w :=
  ⟨fun h0 => absurd (hr.symm.trans h0) (by simp), fun j hj => by
    rw [hr] at hj
    obtain rfl := List.mem_singleton.1 hj
    exact wpOp_step ho (fun K' hK => h K' (fun a w hS hW => hK a w ⟨hS, hW⟩))⟩
theorem wpAnyL_done {listed : Array Bool} {a : Act} {w : World} (hr : Region.ready md ops listed = []) (h : Q .normal a w) : ∀ fuel, wpAnyL P md ops Q S k fuel listed a w
  | 0 => ⟨hr, h⟩
  | _ + 1 => ⟨fun _ => h, by rw [hr]; simp⟩
theorem wp_region_L (S : World → Prop) (k : Nat) {id : Nat} {a : Act} {w : World} (hm : P.follows .mixedOrders = true) (h : wpAnyL P .any ops Q S k ops.size (Array.replicate ops.size false) a w.drew) : (Code.region id ops true).wp P Q a w :=
  wp_region_any hm (wpAny_of_L _ _ _ _ h)
theorem wpIn_region_L (S : World → Prop) (k : Nat) {l n id : Nat} {a : Act} {w : World} (hm : P.follows .mixedOrders = true) (hd : noDefer ops = true) (hQ : ¬ LetsOut Q)
    (h : wpAnyL P .any ops Q S k ops.size (Array.replicate ops.size false) a w.drew) : (Code.region id ops true).wpIn (Fence.wide.inRound l) n P Q a w :=
  wpIn_region_any hm (wpAny_round (noDefer_spec hd) hQ _ _ _ _ (wpAny_of_L _ _ _ _ h))
end
end Go.Proofs.YtobhpeockinnjaaGreatDoor
/- Lists that visits write: Valid; what a list written by visits is good for. No conditions but those that each theorem states. -/
namespace Go.Proofs.YtobhpeockinnjaaGreatDoor
open Go Go.RowKit Go.Sort Go.Maps
/-- An append to strings of the call's own, with what it leaves. -/
theorem wp_ag {w : World} {o : Oper} {a : Act} {K : Act → World → Prop} {Q : Exit → Act → World → Prop} (sl x : Operand)
    (ho : o.op = .call { callee := .builtin .append, args := #[sl, x], argTypes := #[27, 27] })
    (B : Nat) (v : Value) (l l' : List ByteArray) (hs : a.eval sl = v) (hO : OwnS w B v l) (ad : Addr) (n cap : Nat) (hx : a.eval x = .slice (some ad) n cap) (hn : l'.length = n)
    (hsrc : ∀ (j : Nat) s, l'[j]? = some s → w.cell? (ad.add j) = some (.string s)) (hlen : l.length + n ≤ 1099511627776) (hB : B ≤ w.heap.size)
    (h : ∀ v' w', OwnS w' B v' (l ++ l') → w.grownBy w' v.ownBlock → (v'.ownBlock = v.ownBlock ∨ v'.ownBlock = some w.heap.size) → K (a.put o.dst v') w') : o.wp Tryz.prog a w K Q := by
  subst hn
  obtain ⟨i, h1, h2, h3, h4⟩ := info_parts strInfo
  have hown : w.ownsRow B 9 1 v l.length (l.map Value.string) := by
    have h9 := hO
    unfold OwnS OwnV at h9
    rw [List.length_map] at h9
    exact h9
  obtain ⟨v', w', hrun, h5, h6, _, h7⟩ := run_append_own_at (P := Tryz.prog) w B 27 o.type 9 i (.string ⟨#[]⟩) 1 16 Tryz.underlying27 h1 h2 h3 h4 rfl (by omega) v l.length (l.map Value.string) hown ad l'.length cap (l'.map Value.string) (by rw [Nat.mul_one, List.length_map]) (fun j u hj => by
    rw [List.getElem?_map] at hj
    cases hq : l'[j]? with
    | none => rw [hq] at hj; cases hj
    | some z => rw [hq] at hj; cases hj; exact hsrc j z hq) (fun u hu => by obtain ⟨s, _, rfl⟩ := List.mem_map.1 hu; rfl) (by unfold maxLen; omega) (by omega) hB
  have h5' : OwnS w' B v' (l ++ l') := by
    unfold OwnS OwnV
    rw [List.map_append, List.length_append, List.length_map, List.length_map]
    exact h5
  unfold Oper.wp execOp
  simp only [ho, resolve, invoke, builtin, Sem.run_bind, Sem.run_pure, Result.andThen_ok, List.map_toArray, List.map_cons, List.map_nil, hs, hx, hrun]
  exact h v' w' h5' h6 h7
theorem step_ag {w : World} {ops : Array Oper} {rest : List Oper} {o : Oper} {a : Act} {Q : Exit → Act → World → Prop} (hgd : Region.wanted o (yielded ops a.tmps) = true) (sl x : Operand)
    (ho : o.op = .call { callee := .builtin .append, args := #[sl, x], argTypes := #[27, 27] })
    (B : Nat) (v : Value) (l l' : List ByteArray) (hs : a.eval sl = v) (hO : OwnS w B v l) (ad : Addr) (n cap : Nat) (hx : a.eval x = .slice (some ad) n cap) (hn : l'.length = n)
    (hsrc : ∀ (j : Nat) s, l'[j]? = some s → w.cell? (ad.add j) = some (.string s)) (hlen : l.length + n ≤ 1099511627776) (hB : B ≤ w.heap.size)
    (h : ∀ v' w', OwnS w' B v' (l ++ l') → w.grownBy w' v.ownBlock → (v'.ownBlock = v.ownBlock ∨ v'.ownBlock = some w.heap.size) → wpList Tryz.prog ops Q rest (a.put o.dst v') w') : wpList Tryz.prog ops Q (o :: rest) a w :=
  wpList_wanted hgd fun _ hK => wp_ag sl x ho B v l l' hs hO ad n cap hx hn hsrc hlen hB fun v' w' h1 h2 h3 => hK _ _ (h v' w' h1 h2 h3)
theorem OwnV.same {w w' : World} {B : Nat} {e : TypeId} {v : Value} {xs : List Value} (h : OwnV w B e v xs) (hg : ∀ g, v.ownBlock = some g → w'.heap[g]? = w.heap[g]?) : OwnV w' B e v xs := by
  obtain ⟨h1, h2⟩ := h
  refine ⟨h1, ?_⟩
  rcases h2 with h2 | ⟨g, cap, cur, hv, hg', hh, r⟩
  · exact Or.inl h2
  · exact Or.inr ⟨g, cap, cur, hv, hg', (hg g (by rw [hv]; rfl)).trans hh, r⟩
theorem Its.same {w w' : World} {B : Nat} {A : Option Addr} {l : List Dg.It} (h : Its w B A l) (hg : ∀ g, g < B → w'.heap[g]? = w.heap[g]?) : Its w' B A l :=
  ⟨fun h0 => by
    obtain ⟨b, off, e, hlt, hc⟩ := h.at_ h0
    exact ⟨b, off, e, hlt, fun j x hj i u hu => (World.cell?_of_block (a := ⟨b, off + j * 7 + i, none⟩) (hg b hlt)).trans (hc j x hj i u hu)⟩⟩
/-- The list in the variable at block bo. -/
structure OutAt (bo n0 : Nat) (W : World) (v : Value) (l : List ByteArray) : Prop where
  row : W.heap[bo]? = some (.cells #[v] 27 (0, 0))
  own : OwnS W n0 v l
def outS (bo : Nat) (v : Value) : List Nat := bo :: v.ownBlock.toList
theorem outS_own {bo : Nat} {v : Value} {g : Nat} (h : v.ownBlock = some g) : g ∈ outS bo v := by unfold outS; rw [h]; simp
theorem mem_outS {bo : Nat} {v : Value} {g : Nat} (h : g ∈ outS bo v) : g = bo ∨ v.ownBlock = some g := by
  unfold outS at h
  rcases List.mem_cons.1 h with h | h
  · exact Or.inl h
  · cases hv : v.ownBlock with
    | none => rw [hv] at h; cases h
    | some g' => rw [hv] at h; simp at h; exact Or.inr (by rw [h])
theorem OutAt.same {bo n0 : Nat} {W W' : World} {v : Value} {l : List ByteArray} (h : OutAt bo n0 W v l) (hg : ∀ g ∈ outS bo v, W'.heap[g]? = W.heap[g]?) : OutAt bo n0 W' v l :=
  ⟨(hg bo (List.mem_cons_self ..)).trans h.row, OwnV.same h.own fun g hv => hg g (outS_own hv)⟩
/-- What a visit leaves of the list. -/
def OutStep (bo n0 : Nat) (W W' : World) (v : Value) (l' : List ByteArray) : Prop := ∃ v', OutAt bo n0 W' v' l' ∧ Off (outS bo v) W W' ∧ ∀ g, v'.ownBlock = some g → v.ownBlock = some g ∨ W.heap.size ≤ g
theorem OutStep.none {bo n0 : Nat} {W W' : World} {v : Value} {l : List ByteArray} (h : OutAt bo n0 W v l) (hb : Below W.heap.size W W') : OutStep bo n0 W W' v l :=
  ⟨v, h.same (fun g hg => hb.block g (by
    rcases mem_outS hg with rfl | e
    · exact lt_of_block h.row
    · exact (OwnV.lt h.own e).2)), Off.of_below hb, fun g hg => Or.inl hg⟩
theorem out_visit {l : List Dg.It} {F : Nat} {lb : Array Value} {B0 n0 bo : Nat} (hb0 : B0 ≤ bo) (hbn : bo < n0) (Low : World → Prop) (hLow : ∀ W W', Low W → (∀ g, g < n0 → g ≠ bo → W'.heap[g]? = W.heap[g]?) → Low W') (f : List (List ByteArray) → List ByteArray)
    (en : ∀ args w, (callFunc F args).run Tryz.prog w = .ok (.enter F args) w)
    (hc : ∀ (k : Nat) (W : World) (v : Value) (o : List ByteArray) (A : Option Addr) (c : Nat) (vs : List (List ByteArray)) (s : Dg.Wk), k < l.length → Low W → OutAt bo n0 W v (f vs) → n0 ≤ W.heap.size → Dg.walkTo l (k + 1) = some (vs ++ [o], s) → vs.length = k → Strs W W.heap.size A o → o.length ≤ c →
      Calls Tryz.prog F (#[.int .i64 (k : Int), .slice A o.length c] ++ lb) W fun e W' => e = .returned (.tuple #[]) ∧ OutStep bo n0 W W' v (f (vs ++ [o]))) :
    Visit l F lb B0 n0 (fun k S W => ∃ v vs s, S = outS bo v ∧ OutAt bo n0 W v (f vs) ∧ Dg.walkTo l k = some (vs, s) ∧ Low W) where
  enters := en
  stable := fun k S W W' h hS hb => by
    obtain ⟨v, vs, s, rfl, h1, h2, h3⟩ := h
    exact ⟨v, vs, s, rfl, h1.same hS, h2, hLow W W' h3 fun g hg _ => hb.block g hg⟩
  lt := fun k S W h g hg => by
    obtain ⟨v, vs, s, rfl, h1, h2, h3⟩ := h
    rcases mem_outS hg with rfl | e
    · exact ⟨hb0, lt_of_block h1.row⟩
    · have := OwnV.lt h1.own e
      omega
  call := fun k S W o A c vs s hk h hw hvl hS hoc hn => by
    obtain ⟨v, vs0, s0, rfl, h1, h2, h3⟩ := h
    obtain ⟨vs1, s1, o1, e1, _, e2⟩ := Dg.walk_step hk hw
    rw [h2] at e1
    cases e1
    obtain ⟨rfl, e3⟩ := List.append_inj' e2 rfl
    refine (hc k W v o A c vs s hk h3 h1 hn hw hvl hS hoc).mono ?_
    rintro e W' ⟨rfl, v', h4, h5, h6⟩
    refine ⟨rfl, outS bo v', ⟨v', vs ++ [o], s, rfl, h4, hw, hLow W W' h3 fun g hg hgb => h5.block g (by omega) fun hm => ?_⟩, h5, fun g hg => ?_⟩
    · rcases mem_outS hm with e | e
      · exact hgb e
      · have := (OwnV.lt h1.own e).1
        omega
    · rcases mem_outS hg with rfl | e
      · exact Or.inl (List.mem_cons_self ..)
      · exact (h6 g e).imp outS_own id
end Go.Proofs.YtobhpeockinnjaaGreatDoor
/- Valid and Below of package code. No conditions but those that each theorem states. -/
namespace Go.Proofs.YtobhpeockinnjaaGreatDoor
open Go Go.RowKit Go.Sort Go.Maps
theorem valid1_any (k : Int) (A : Option Addr) (n c : Nat) (w : World) : Calls Tryz.prog 64 #[.int .i64 k, .slice A n c] w fun e w' => e = .returned (.tuple #[]) ∧ w' = w := by
  go_enter Tryz.func64, Tryz.ntmps64
  go_wp2
  go_end0
  exact ⟨rfl, rfl⟩
theorem valid_visit (l : List Dg.It) (B0 n0 : Nat) : Visit l 64 #[] B0 n0 (fun _ S _ => S = []) where
  enters := enters_of Tryz.func64 (by kernel_rfl) rfl
  stable := fun _ _ _ _ h _ _ => h
  lt := fun _ _ _ h g hg => by rw [h] at hg; cases hg
  call := fun k S W o A c vs s _ h _ _ _ _ _ => by
    refine (valid1_any (k : Int) A o.length c W).mono ?_
    rintro e W' ⟨rfl, rfl⟩
    subst h
    exact ⟨rfl, [], rfl, Off.refl _ _, fun g hg => by cases hg⟩
theorem Code.valid_of (l : List Dg.It) (A : Option Addr) (n c : Nat) (hl : l.length = n) (hw : ∀ x ∈ l, ItW x) (hn : n ≤ 1048576) (w : World) (hI : Its w w.heap.size A l) (R : Bool) (hR : Dg.validC l = R) :
    Calls Tryz.prog 31 #[.agg #[.slice A n c]] w fun e w' => e = .returned (.bool R) ∧ Below w.heap.size w w' := by
  have hx := Below.news (Below.refl w.heap.size w) (.cells #[.slice A n c] 24)
  have hcc := iCells0 (heap_alloc_new w (.cells #[.slice A n c] 24))
  have HI := hide hI; have HR := hide hR; have HW := hide hw; have HL := hide hl
  clear hI hR hw hl
  go_enter Tryz.func31, Tryz.ntmps31
  go_wp2_with fail
  generalize w.alloc (.cells #[.slice A n c] 24) = w1 at *
  refine (walk_any l A n c HL.out HW.out hn w.heap.size w1 (HI.out.below hx) hx.size 64 #[] (fun _ S _ => S = []) (valid_visit l _ _) [] rfl R HR.out).mono ?_
  rintro e w2 ⟨rfl, k, S, _, _, ho, _⟩
  have hb := bnext hx ho.nil
  clear hcc
  go_wp2
  go_ret
  exact ⟨rfl, hb⟩
/-- The walk, when its visits write a list. -/
theorem out_walk {F : Nat} {lb : Array Value} (l : List Dg.It) (A : Option Addr) (n c : Nat) (hl : l.length = n) (hw : ∀ x ∈ l, ItW x) (hn : n ≤ 1048576) (B0 bo : Nat) (w : World) (hI : Its w B0 A l) (hB : B0 ≤ bo) (hbo : bo < w.heap.size) (Low : World → Prop) (hLow : ∀ W W', Low W → (∀ g, g < w.heap.size → g ≠ bo → W'.heap[g]? = W.heap[g]?) → Low W') (f : List (List ByteArray) → List ByteArray)
    (en : ∀ args w, (callFunc F args).run Tryz.prog w = .ok (.enter F args) w)
    (hc : ∀ (k : Nat) (W : World) (v : Value) (o : List ByteArray) (A : Option Addr) (c : Nat) (vs : List (List ByteArray)) (s : Dg.Wk), k < l.length → Low W → OutAt bo w.heap.size W v (f vs) → w.heap.size ≤ W.heap.size → Dg.walkTo l (k + 1) = some (vs ++ [o], s) → vs.length = k → Strs W W.heap.size A o → o.length ≤ c →
      Calls Tryz.prog F (#[.int .i64 (k : Int), .slice A o.length c] ++ lb) W fun e W' => e = .returned (.tuple #[]) ∧ OutStep bo w.heap.size W W' v (f (vs ++ [o])))
    (h0 : OutAt bo w.heap.size w (.slice none 0 0) (f [])) (hl0 : Low w) (R : Bool) (hR : Dg.validC l = R) :
    Calls Tryz.prog 63 #[.agg #[.slice A n c], .func (.func F) #[] lb] w fun e w' => e = .returned (.bool R) ∧ ∃ v L, (R = true → L = f (Dg.visits l)) ∧ OutAt bo w.heap.size w' v L ∧ Low w' ∧ Below bo w w' ∧ w.heap.size ≤ w'.heap.size := by
  refine (walk_any l A n c hl hw hn B0 w hI (by omega) F lb _ (out_visit hB hbo Low hLow f en hc) [bo] ⟨.slice none 0 0, [], ⟨[], []⟩, rfl, h0, rfl, hl0⟩ R hR).mono ?_
  rintro e w' ⟨rfl, k, S, hk, ⟨v, vs, s, rfl, h1, h2, h3⟩, ho, _⟩
  refine ⟨rfl, v, f vs, fun hr => ?_, h1, h3, ho.below (by omega) (fun g hg => by rw [List.mem_singleton.1 hg]; exact Nat.le_refl _), ho.size⟩
  have := hk hr
  subst this
  rw [hr] at hR
  obtain ⟨s', h4, _⟩ := Dg.valid_walk hR
  rw [hl] at h4
  rw [h2] at h4
  cases h4
  rfl
theorem setCell_row1 {w : World} {g : Nat} {a : Value} {T : TypeId} (h : w.heap[g]? = some (.cells #[a] T (0, 0))) (u : Value) : (w.setCell ⟨g, 0, none⟩ u).heap[g]? = some (.cells #[u] T (0, 0)) := by
  simp only [World.setCell, Array.getElem?_modify, h]
  simp
end Go.Proofs.YtobhpeockinnjaaGreatDoor
/- Below of package code. No conditions but those that each theorem states. -/
namespace Go.Proofs.YtobhpeockinnjaaGreatDoor
open Go Go.RowKit Go.Sort Go.Maps
theorem visits_le (l : List Dg.It) (h : Dg.validC l = true) : (Dg.visits l).length = l.length := by
  obtain ⟨s, h1, _⟩ := Dg.valid_walk h
  exact Dg.walk_len (Nat.le_refl _) h1
theorem op_short {l : List Dg.It} {k : Nat} (hk : k < l.length) {vs : List (List ByteArray)} {o : List ByteArray} {s : Dg.Wk} (h : Dg.walkTo l (k + 1) = some (vs ++ [o], s)) : o.length ≤ k := by
  obtain ⟨vs0, s0, o', h1, h2, h3⟩ := Dg.walk_step hk h
  obtain ⟨_, e⟩ := List.append_inj' h3 rfl
  cases e
  obtain ⟨_, _, j, _, ho, _⟩ := Dg.stepI_some h2
  have := op_len (by omega) h1
  rw [ho, List.length_take]
  omega
end Go.Proofs.YtobhpeockinnjaaGreatDoor
/- joined of package code. No conditions but those that each theorem states. -/
namespace Go.Proofs.YtobhpeockinnjaaGreatDoor
open Go Go.RowKit Go.Sort Go.Maps
theorem L_app (a b : ByteArray) : Dg.L (a ++ b) = Dg.L a ++ Dg.L b := by
  unfold Dg.L
  rw [ByteArray.data_append, Array.toList_append]
theorem B_L (a : ByteArray) : Dg.B (Dg.L a) = a := by
  unfold Dg.B Dg.L
  rfl
theorem jB_snoc (l : List ByteArray) (k : Nat) (h : k < l.length) (hz : l[k].size ≤ 9223372036854775807) : Dg.jB (l.take (k + 1)) = Dg.jB (l.take k) ++ (decB l[k].size ++ ⟨#[58]⟩ ++ l[k]) := by
  unfold Dg.jB
  rw [Dg.joinedL_take l k h]
  conv => rhs; rw [← B_L (Dg.B _ ++ _)]
  rw [L_app, L_app, L_app, L_decB _ hz, Dg.L_B, Dg.len_L]
  congr 2
  rw [List.append_assoc]
  rfl
theorem jB_len (l : List ByteArray) (k : Nat) (hn : l.length ≤ 1048576) (hz : ∀ s ∈ l, s.size ≤ 1073741824) : (Dg.jB (l.take k)).size ≤ 1152921504606846976 := by
  unfold Dg.jB
  rw [Dg.size_B]
  have h1 := Dg.joinedL_len_le (l.take k) 1073741824 (fun s hs => hz s (List.mem_of_mem_take hs))
  have h2 : (l.take k).length ≤ 1048576 := by rw [List.length_take]; omega
  have h3 : (l.take k).length * (1073741824 + 21) ≤ 1048576 * (1073741824 + 21) := Nat.mul_le_mul_right _ h2
  omega
set_option maxHeartbeats 4000000 in
theorem Code.joined_of (A : Option Addr) (n c : Nat) (l : List ByteArray) (hl : l.length = n) (hn : n ≤ 1048576) (hz : ∀ s ∈ l, s.size ≤ 1073741824) (w : World) (he : Env w) (hS : Strs w w.heap.size A l) (J : ByteArray) (hJ : Dg.jB l = J) :
    Calls Tryz.prog 66 #[.slice A n c] w fun e w' => e = .returned (.string J) ∧ Below w.heap.size w w' := by
  have HL := hide hl; have HZ := hide hz; have HJ := hide hJ
  clear hl hz hJ
  go_enter Tryz.func66, Tryz.ntmps66
  go_wp2
  go_loopw [3, 8] (fun ov iv wr => ∃ k : Nat, k ≤ n ∧ iv = .int .i64 (k : Int) ∧ ov = .string (Dg.jB (l.take k)) ∧ Below w.heap.size w wr) (fun _ iv _ => n - (intOf iv).toNat)
  case atStart => exact ⟨0, by omega, rfl, rfl, Below.refl _ _⟩
  case round =>
    obtain ⟨k, hk, rfl, rfl, hb⟩ := hrel
    by_cases hlt : k < n
    · have hkl : k < l.length := by rw [HL.out]; exact hlt
      obtain ⟨b, off, rfl, hbl, hcell⟩ := (hS.below hb).get hkl
      have hxz := HZ.out l[k] (List.getElem_mem hkl)
      have hts := hide (jB_snoc l k hkl (by omega))
      have hpz := jB_len l k (by rw [HL.out]; exact hn) HZ.out
      generalize l[k] = x at *
      go_wp2_with fail
      refine (itoa_any _ x.size rfl (by omega) _ (he.next hb)).mono ?_
      rintro e w2 ⟨rfl, hb2⟩
      have hb3 := bnext hb hb2
      obtain ⟨P, hP⟩ : ∃ P, Dg.jB (l.take k) = P := ⟨_, rfl⟩
      rw [hP]
      rw [hP] at hts hpz
      have HP := hide hP
      clear hP hcell
      obtain ⟨D, hD⟩ : ∃ D, decB x.size = D := ⟨_, rfl⟩
      have hdz : D.size ≤ 20 := by rw [← hD]; exact decB_size _ (by omega)
      rw [hD] at hts
      rw [hD]
      have HD := hide hD
      clear hD
      go_wp2
      go_roundw
      case rel => exact ⟨k + 1, by omega, by go_num, by rw [hts.out], hb3⟩
      case measure => simp [intOf]; omega
    · obtain rfl : k = n := by omega
      have hJ2 : Dg.jB (l.take k) = J := by rw [← HL.out, List.take_length]; exact HJ.out
      rw [hJ2]
      clear hJ2
      go_wp2
      go_ret
      exact ⟨rfl, hb⟩
end Go.Proofs.YtobhpeockinnjaaGreatDoor
/- Beginnings of codes, codes without a number or a repealed article, fields and leaves, in plain Lean. No program in sight. -/
namespace Go.Proofs.YtobhpeockinnjaaGreatDoor.Dg
open Go
/-! Beginnings. -/
/-! Walks that differ in nothing that counts. -/
/-- An item without its number. -/
def bareI (x : It) : It := { x with number := nil8 }
/-! Without an article. -/
/-! Leaves and fields. -/
def sD : ByteArray := ⟨#[100]⟩
def sA : ByteArray := ⟨#[97]⟩
def sG : ByteArray := ⟨#[103]⟩
def leafI (x : It) : ByteArray := jB [if x.kind = 1 then sD else sA, x.id, x.parent, x.north, x.south]
def leavesOf (l : List It) : List ByteArray := (l.filter fun x => !x.gone).map leafI
def leavesC (l : List It) : List ByteArray := if validC l then leavesOf l else []
end Go.Proofs.YtobhpeockinnjaaGreatDoor.Dg
/- Digests of codes, in plain Lean: the joined fields tell valid codes apart. No program in sight. -/
namespace Go.Proofs.YtobhpeockinnjaaGreatDoor.Dg
open Go
def kindW (x : It) : ByteArray := if x.kind = 1 then sD else if x.gone then sG else sA
def fieldsI (x : It) : List ByteArray := [kindW x, x.id, x.parent, x.number, x.north, x.south]
theorem proper_kind {x : It} (h : properI x = true) : (x.kind = 1 ∧ x.gone = false ∧ x.north = nil8 ∧ x.south = nil8) ∨ (x.kind = 2 ∧ x.north.size ≤ 400 ∧ x.south.size ≤ 400) := by
  unfold properI at h
  split at h
  · rename_i h1
    simp only [Bool.and_eq_true, decide_eq_true_eq, Bool.not_eq_true'] at h
    exact Or.inl ⟨h1, h.2.2.2.2, h.2.2.1, h.2.2.2.1⟩
  · split at h
    · rename_i h2
      simp only [Bool.and_eq_true, decide_eq_true_eq] at h
      exact Or.inr ⟨h2, h.2.2.1, h.2.2.2⟩
    · cases h
/-- As many leaves as items that are not gone. -/
theorem leaves_len (l : List It) : (leavesOf l).length = l.countP fun x => !x.gone := by
  unfold leavesOf
  rw [List.length_map, List.countP_eq_length_filter]
end Go.Proofs.YtobhpeockinnjaaGreatDoor.Dg
/- Digest of package code. No conditions but those that each theorem states. -/
namespace Go.Proofs.YtobhpeockinnjaaGreatDoor
open Go Go.RowKit Go.Sort Go.Maps
/-- Behind an append to the list and before it is stored. -/
theorem out_row {bo n0 : Nat} {W u7 u8 : World} {v : Value} {L : List ByteArray} (hO : OutAt bo n0 W v L) (hbo : bo < n0) (hn0 : n0 ≤ W.heap.size) (hx : Below W.heap.size W u7) (hg : u7.grownBy u8 v.ownBlock) : u8.heap[bo]? = some (.cells #[v] 27 (0, 0)) ∧ ∀ g, g < n0 → u8.heap[g]? = W.heap[g]? := by
  have key : ∀ g, g < n0 → u8.heap[g]? = W.heap[g]? := fun g h => (hg.block g (Nat.lt_of_lt_of_le h (Nat.le_trans hn0 hx.size)) (fun e => by have := (OwnV.lt hO.own e.symm).1; omega)).trans (hx.block g (by omega))
  exact ⟨(key bo hbo).trans hO.row, key⟩
theorem out_done {bo n0 : Nat} {W u7 u8 : World} {v v8 : Value} {L X : List ByteArray} (hO : OutAt bo n0 W v L) (hbo : bo < n0) (hn0 : n0 ≤ W.heap.size) (hx : Below W.heap.size W u7) (hg : u7.grownBy u8 v.ownBlock) (hO8 : OwnS u8 n0 v8 (L ++ X)) (hat : v8.ownBlock = v.ownBlock ∨ v8.ownBlock = some u7.heap.size) : OutStep bo n0 W (u8.setCell ⟨bo, 0, none⟩ v8) v (L ++ X) := by
  refine ⟨v8, ⟨setCell_row1 (out_row hO hbo hn0 hx hg).1 v8, OwnV.same hO8 (fun g hg => Below.heap_setCell _ _ _ _ (by show g ≠ bo; have := (OwnV.lt hO8 hg).1; omega))⟩, ?_, fun g hg' => ?_⟩
  · exact ((Off.of_below (S := outS bo v) hx).trans (Off.of_grown (S := outS bo v) hg (fun g hg => outS_own hg)) (fun _ h => Or.inl h)).setCell (p := ⟨bo, 0, none⟩) (List.mem_cons_self ..) _
  · rcases hat with e | e
    · exact Or.inl (e.symm.trans hg')
    · rw [e] at hg'
      cases hg'
      exact Or.inr hx.size
theorem Its.cells {w : World} {B b off : Nat} {l : List Dg.It} (h : Its w B (some ⟨b, off, none⟩) l) {k : Nat} (hk : k < l.length) (x : Dg.It) (hx : l[k] = x) : b < B ∧ w.cell? ⟨b, off + k * 7, none⟩ = some (.int .i64 x.kind) ∧ w.cell? ⟨b, off + k * 7 + 1, none⟩ = some (.string x.id) ∧ w.cell? ⟨b, off + k * 7 + 2, none⟩ = some (.string x.parent) ∧ w.cell? ⟨b, off + k * 7 + 3, none⟩ = some (.string x.number) ∧
    w.cell? ⟨b, off + k * 7 + 4, none⟩ = some (.string x.north) ∧ w.cell? ⟨b, off + k * 7 + 5, none⟩ = some (.string x.south) ∧ w.cell? ⟨b, off + k * 7 + 6, none⟩ = some (.bool x.gone) := by
  obtain ⟨b', off', e, hb, hc⟩ := h.get hk
  cases e
  rw [hx] at hc
  exact ⟨hb, hc 0 _ rfl, hc 1 _ rfl, hc 2 _ rfl, hc 3 _ rfl, hc 4 _ rfl, hc 5 _ rfl, hc 6 _ rfl⟩
theorem Its.some {w : World} {B : Nat} {A : Option Addr} {l : List Dg.It} (h : Its w B A l) {k : Nat} (hk : k < l.length) : ∃ b off, A = some ⟨b, off, none⟩ := by
  obtain ⟨b, off, e, _⟩ := h.get hk
  exact ⟨b, off, e⟩
end Go.Proofs.YtobhpeockinnjaaGreatDoor
/- Digest of package code, the whole. No conditions but those that each theorem states. -/
namespace Go.Proofs.YtobhpeockinnjaaGreatDoor
open Go Go.RowKit Go.Sort Go.Maps
theorem iAlloc2 (w : World) (A B : Obj) : ((w.alloc A).alloc B).heap[w.heap.size]? = some A ∧ ((w.alloc A).alloc B).heap[w.heap.size + 1]? = some B ∧ Below w.heap.size w ((w.alloc A).alloc B) ∧ ((w.alloc A).alloc B).heap.size = w.heap.size + 2 := by
  have s1 : (w.alloc A).heap.size = w.heap.size + 1 := by simp
  have x1 := Below.news (Below.refl w.heap.size w) A
  have x2 := Below.news (Below.refl (w.alloc A).heap.size (w.alloc A)) B
  have r1 := heap_alloc_new w A
  have r2 := heap_alloc_new (w.alloc A) B
  rw [s1] at r2
  exact ⟨iNext r1 x2, r2, bnext x1 x2, by simp⟩
end Go.Proofs.YtobhpeockinnjaaGreatDoor
/- Under of package code. No conditions but those that each theorem states. -/
namespace Go.Proofs.YtobhpeockinnjaaGreatDoor
open Go Go.RowKit Go.Sort Go.Maps
end Go.Proofs.YtobhpeockinnjaaGreatDoor
/- Under and Find of package code. No conditions but those that each theorem states. -/
namespace Go.Proofs.YtobhpeockinnjaaGreatDoor
open Go Go.RowKit Go.Sort Go.Maps
theorem retI {a b : Int} (h : a = b) : Ending.returned (.int .i64 a) = .returned (.int .i64 b) := by rw [h]
/-- What Find says. -/
def findX (l : List Dg.It) (id : ByteArray) : Int := match l.findIdx? (fun x => decide (x.id = id)) with | some i => (i : Int) | none => -1
theorem findX_at {l : List Dg.It} {id : ByteArray} {k : Nat} (hk : k < l.length) (h : l[k].id = id) (hb : ∀ x ∈ l.take k, x.id ≠ id) : findX l id = (k : Int) := by
  have : l.findIdx? (fun x => decide (x.id = id)) = some k := by
    rw [List.findIdx?_eq_some_iff_getElem]
    refine ⟨hk, by rw [h]; exact decide_eq_true rfl, fun j hj => ?_⟩
    have := hb (l[j]'(by omega)) (List.mem_take_iff_getElem.2 ⟨j, by omega, rfl⟩)
    simpa using this
  unfold findX
  rw [this]
theorem findX_none {l : List Dg.It} {id : ByteArray} (hb : ∀ x ∈ l, x.id ≠ id) : findX l id = -1 := by
  have : l.findIdx? (fun x => decide (x.id = id)) = none := by
    rw [List.findIdx?_eq_none_iff]
    intro x hx
    simpa using hb x hx
  unfold findX
  rw [this]
end Go.Proofs.YtobhpeockinnjaaGreatDoor
/- Leaves of package code. No conditions but those that each theorem states. -/
namespace Go.Proofs.YtobhpeockinnjaaGreatDoor
open Go Go.RowKit Go.Sort Go.Maps
theorem lawIntC : Keyed Tryz.prog 3 := int_keyed Tryz.underlying3
theorem key_intC (m : Int) (m0 : -9223372036854775808 ≤ m) (m1 : m ≤ 9223372036854775807) : keyOf Tryz.prog 3 (.int .i64 m) = some (.int .i64 m) :=
  keyOf_int_mk Tryz.underlying3 (WalkArith.wf_i64 ⟨m0, m1⟩)
set_option maxRecDepth 100000 in
theorem plainElem_str_inv {v : Value} {z : DataW Unit × List MemPlace} (h : plainElem Tryz.prog 9 v = some z) : ∃ x, v = .string x ∧ z = (.lit (.string x.data.toList), []) := by
  unfold plainElem at h
  rw [Tryz.underlying9] at h
  split at h
  · rename_i h1; cases h1
  · rename_i h1; cases h1
  · split at h
    · cases h; exact ⟨_, rfl, rfl⟩
    · cases h
  · cases h
noncomputable def rSt : Value → Option (DataW Unit × List MemPlace) := plainElem Tryz.prog 9
noncomputable def kindD : DataW Unit := ((DataW.map []).put (.int .i64 1) (.lit (.string Dg.sD.data.toList))).put (.int .i64 2) (.lit (.string Dg.sA.data.toList))
theorem kindD_at (m : Int) (hm : m = 1 ∨ m = 2) : kindD.atKey (.int .i64 m) (.lit (.string [])) = .lit (.string (if m = 1 then Dg.sD else Dg.sA).data.toList) := by
  unfold kindD
  rcases hm with rfl | rfl
  · rw [atKey_put_other (fun e => by cases e), atKey_put_same isMap_empty (by trivial)]
    rfl
  · rw [atKey_put_same (isMap_empty.put _ _) (by trivial)]
    rfl
set_option maxRecDepth 100000 in
/-- The map of the kinds' letters, made and asked. -/
theorem kind_run (w : World) (m : Int) (hm : m = 1 ∨ m = 2) : ∃ wa wb, (Instr.mapUpdate 104 (.map (some w.heap.size)) (.int .i64 1) (.string Dg.sD)).run Tryz.prog (w.alloc (.map #[] 0)) = .ok () wa ∧ (Instr.mapUpdate 104 (.map (some w.heap.size)) (.int .i64 2) (.string Dg.sA)).run Tryz.prog wa = .ok () wb ∧
    (Instr.lookup 104 (.map (some w.heap.size)) (.int .i64 m) false).run Tryz.prog wb = .ok (.string (if m = 1 then Dg.sD else Dg.sA)) wb ∧ Below w.heap.size w wb := by
  have h0 := World.ownsMap_made w Tryz.prog 3 rSt
  obtain ⟨wa, r1, h1, g1⟩ := World.ownsMap.update h0 lawIntC Tryz.underlying104 (by unfold maxLen; omega) (key_intC 1 (by omega) (by omega)) (plainElem_string (H := Unit) Tryz.underlying9 (s := Dg.sD) (by decide))
  obtain ⟨wb, r2, h2, g2⟩ := World.ownsMap.update h1 lawIntC Tryz.underlying104 (by unfold maxLen; omega) (key_intC 2 (by omega) (by omega)) (plainElem_string (H := Unit) Tryz.underlying9 (s := Dg.sA) (by decide))
  obtain ⟨v, ps, r3, hv⟩ := h2.lookup lawIntC Tryz.underlying104 (z := .string ⟨#[]⟩) (by kernel_rfl) (plainElem_string Tryz.underlying9 (s := ⟨#[]⟩) (by decide)) (key_intC m (by rcases hm with rfl | rfl <;> omega) (by rcases hm with rfl | rfl <;> omega))
  rw [show (((DataW.map []).put (Lit.int IntKind.i64 1) (DataW.lit (Lit.string Dg.sD.data.toList))).put (Lit.int IntKind.i64 2) (DataW.lit (Lit.string Dg.sA.data.toList)) : DataW Unit).atKey (.int .i64 m) (.lit (.string (⟨#[]⟩ : ByteArray).data.toList)) = _ from kindD_at m hm] at hv
  obtain ⟨x, rfl, hx⟩ := plainElem_str_inv hv
  injection hx with hx _
  injection hx with hx
  injection hx with hx
  have hxx : x = (if m = 1 then Dg.sD else Dg.sA) := Dg.L_inj hx.symm
  rw [hxx] at r3
  refine ⟨wa, wb, r1, r2, r3, ?_⟩
  have x0 := Below.news (Below.refl w.heap.size w) (.map #[] 0)
  exact (x0.grown g1 x0.size (fun j hj => by cases hj; exact Nat.le_refl _)).grown g2 (Nat.le_trans x0.size g1.size) (fun j hj => by cases hj; exact Nat.le_refl _)
set_option maxRecDepth 100000 in
set_option maxHeartbeats 8000000 in
theorem leaves1_any (l : List Dg.It) (AI : Option Addr) (n c : Nat) (hl : l.length = n) (B0 n0 bo b2 : Nat) (hbo : bo < n0) (hB2 : B0 ≤ bo) (k : Nat) (hk : k < l.length) (W : World) (he : Env W) (hI : Its W B0 AI l) (hkd : l[k].kind = 1 ∨ l[k].kind = 2) (hz : ∀ s ∈ Dg.fieldsI l[k], s.size ≤ 1073741824)
    (r2 : W.heap[b2]? = some (.cells #[.slice AI n c] 24 (0, 0))) (v : Value) (L : List ByteArray) (hO : OutAt bo n0 W v L) (hLl : L.length ≤ 1099511627000) (hn0 : n0 ≤ W.heap.size) (A : Option Addr) (m co : Nat) :
    Calls Tryz.prog 65 #[.int .i64 (k : Int), .slice A m co, .pointer (some ⟨b2, 0, none⟩), .pointer (some ⟨bo, 0, none⟩)] W fun e W' => e = .returned (.tuple #[]) ∧ OutStep bo n0 W W' v (if l[k].gone = true then L else L ++ [Dg.leafI l[k]]) := by
  have hB0 : B0 ≤ W.heap.size := by omega
  obtain ⟨b, off, rfl⟩ := hI.some hk
  obtain ⟨x, hx⟩ : ∃ x, l[k] = x := ⟨_, rfl⟩
  obtain ⟨hbl, p0, p1, p2, p3, p4, p5, p6⟩ := hI.cells hk x hx
  rw [hx] at hkd hz ⊢
  have HZ := hide hz
  clear hx hz
  obtain ⟨L2, hL2⟩ : ∃ L2, (if x.gone = true then L else L ++ [Dg.leafI x]) = L2 := ⟨_, rfl⟩
  rw [hL2]
  have HL2 := hide hL2
  clear hL2
  have hidx : (k : Int) < (n : Int) := by omega
  have hk0 : (0 : Int) ≤ (k : Int) := by omega
  have hc2 := iCells0 r2
  have hx1 := Below.news (Below.refl W.heap.size W) (.cells #[.int .i64 x.kind, .string x.id, .string x.parent, .string x.number, .string x.north, .string x.south, .bool x.gone] 26)
  have hrow := heap_alloc_new W (.cells #[.int .i64 x.kind, .string x.id, .string x.parent, .string x.number, .string x.north, .string x.south, .bool x.gone] 26)
  have hmm := @run_makeMap Tryz.prog
  obtain ⟨wa, wb, q1, q2, q3, hq⟩ := kind_run (W.alloc (.cells #[.int .i64 x.kind, .string x.id, .string x.parent, .string x.number, .string x.north, .string x.south, .bool x.gone] 26)) x.kind hkd
  obtain ⟨KW, hKW⟩ : ∃ K, (if x.kind = 1 then Dg.sD else Dg.sA) = K := ⟨_, rfl⟩
  rw [hKW] at q3
  have HKW := hide hKW
  have hKD : Hid (x.kind = 1 ∨ x.kind = 2) := hkd
  clear hKW hkd
  have hsz1 : (W.alloc (.cells #[.int .i64 x.kind, .string x.id, .string x.parent, .string x.number, .string x.north, .string x.south, .bool x.gone] 26)).heap.size = W.heap.size + 1 := by simp
  rw [hsz1] at q1 q2 q3
  clear hsz1
  unfold Dg.sD at q1
  unfold Dg.sA at q2
  go_enter Tryz.func65, Tryz.ntmps65
  go_upto_region 1 with (fail)
  have hxx := bnext hx1 hq
  have hrowb := iNext hrow hq
  obtain ⟨c0, c1, c2, c3, c4, c5, c6⟩ := iCells (iNext hrow hq)
  clear p0 p1 p2 p3 p4 p5 p6 hc2 r2
  go_upto_region 2 with (fail)
  have hOb : OutAt bo n0 wb v L := hO.same (fun g hg => hxx.block g (by
    rcases mem_outS hg with rfl | e
    · exact lt_of_block hO.row
    · exact (OwnV.lt hO.own e).2))
  have hsb := hide hxx.size
  have hXX := hide hxx
  have hbi : Hid (W.heap.size < wb.heap.size) := lt_of_block hrowb
  clear q1 q2 q3 hq hrow hx1 hmm
  cases hgo : x.gone with
  | true =>
    have e2 : L = L2 := by rw [← HL2.out, if_pos hgo]
    subst e2
    rw [hgo] at c6
    clear hgo
    go_wp2
    go_end0
    exact ⟨rfl, OutStep.none hO hXX.out⟩
  | false =>
    have e2 := hide (show L ++ [Dg.leafI x] = L2 by rw [← HL2.out, if_neg (by rw [hgo]; exact Bool.false_ne_true)])
    rw [hgo] at c6
    go_upto_region 3 with (fail)
    have hmx : Tryz.prog.follows .mixedOrders = true := by kernel_rfl
    have hHeld : (fun X_ : World => X_.heap[bo]? = some (.cells #[v] 27 (0, 0)) ∧ X_.heap[W.heap.size]? = some (.cells #[.int .i64 x.kind, .string x.id, .string x.parent, .string x.number, .string x.north, .string x.south, .bool x.gone] 26 (0, 0))) wb.drew := ⟨hOb.row, hrowb⟩
    have hOd : OutAt bo n0 wb.drew v L := ⟨hOb.row, hOb.own.below (Below.refl wb.heap.size wb).drew⟩
    have hxd : Below W.heap.size W wb.drew := bnext hXX.out (Below.refl wb.heap.size wb).drew
    have hed := he.next hxd
    refine wp_region_noPanic ?_
    refine wp_region_L (fun X_ : World => X_.heap[bo]? = some (.cells #[v] 27 (0, 0)) ∧ X_.heap[W.heap.size]? = some (.cells #[.int .i64 x.kind, .string x.id, .string x.parent, .string x.number, .string x.north, .string x.south, .bool x.gone] 26 (0, 0))) 14 hmx ?_
    generalize wb.drew = u0 at *
    clear hrowb hOb c0 c1 c2 c3 c4 c5 c6 hsb hXX hbi
    refine wpAnyL_take (i := 0) (f0 := 16) (v := ?_) rfl (by decide +kernel) (by decide +kernel) (by decide +kernel) (by decide +kernel) (by decide +kernel) (fun _ _ _ h => h) (Or.inl ⟨by rfl, ?_⟩) hHeld ?_
    rotate_left
    · intro wS hS; obtain ⟨hS1, hS2⟩ := hS; have c9 := iCells0 hS1; go_simp; (try with_reducible rfl)
    simp only [Act.put, List.getElem_toArray, List.getElem_cons_zero, List.setIfInBounds_toArray, List.set_cons_succ, List.set_cons_zero]
    refine wpAnyL_take (i := 1) (f0 := 16) (v := ?_) rfl (by decide +kernel) (by decide +kernel) (by decide +kernel) (by decide +kernel) (by decide +kernel) (fun _ _ _ h => h) (Or.inl ⟨by rfl, ?_⟩) hHeld ?_
    rotate_left
    · intro wS hS; obtain ⟨hS1, hS2⟩ := hS; go_simp; (try with_reducible rfl)
    simp only [Act.put, List.getElem_toArray, List.getElem_cons_succ, List.getElem_cons_zero, List.setIfInBounds_toArray, List.set_cons_succ, List.set_cons_zero]
    refine wpAnyL_take (i := 2) (f0 := 16) (v := ?_) rfl (by decide +kernel) (by decide +kernel) (by decide +kernel) (by decide +kernel) (by decide +kernel) (fun _ _ _ h => h) (Or.inl ⟨by rfl, ?_⟩) hHeld ?_
    rotate_left
    · intro wS hS; obtain ⟨hS1, hS2⟩ := hS; go_simp; (try with_reducible rfl)
    simp only [Act.put, List.getElem_toArray, List.getElem_cons_succ, List.getElem_cons_zero, List.setIfInBounds_toArray, List.set_cons_succ, List.set_cons_zero]
    refine wpAnyL_take (i := 3) (f0 := 16) (v := ?_) rfl (by decide +kernel) (by decide +kernel) (by decide +kernel) (by decide +kernel) (by decide +kernel) (fun _ _ _ h => h) (Or.inl ⟨by rfl, ?_⟩) hHeld ?_
    rotate_left
    · intro wS hS; obtain ⟨hS1, hS2⟩ := hS; obtain ⟨c0, c1, c2, c3, c4, c5, c6⟩ := iCells hS2; go_simp; (try with_reducible rfl)
    simp only [Act.put, List.getElem_toArray, List.getElem_cons_succ, List.getElem_cons_zero, List.setIfInBounds_toArray, List.set_cons_succ, List.set_cons_zero]
    refine wpAnyL_take (i := 4) (f0 := 16) (v := ?_) rfl (by decide +kernel) (by decide +kernel) (by decide +kernel) (by decide +kernel) (by decide +kernel) (fun _ _ _ h => h) (Or.inl ⟨by rfl, ?_⟩) hHeld ?_
    rotate_left
    · intro wS hS; obtain ⟨hS1, hS2⟩ := hS; go_simp; (try with_reducible rfl)
    simp only [Act.put, List.getElem_toArray, List.getElem_cons_succ, List.getElem_cons_zero, List.setIfInBounds_toArray, List.set_cons_succ, List.set_cons_zero]
    refine wpAnyL_take (i := 5) (f0 := 16) (v := ?_) rfl (by decide +kernel) (by decide +kernel) (by decide +kernel) (by decide +kernel) (by decide +kernel) (fun _ _ _ h => h) (Or.inl ⟨by rfl, ?_⟩) hHeld ?_
    rotate_left
    · intro wS hS; obtain ⟨hS1, hS2⟩ := hS; obtain ⟨c0, c1, c2, c3, c4, c5, c6⟩ := iCells hS2; go_simp; (try with_reducible rfl)
    simp only [Act.put, List.getElem_toArray, List.getElem_cons_succ, List.getElem_cons_zero, List.setIfInBounds_toArray, List.set_cons_succ, List.set_cons_zero]
    refine wpAnyL_take (i := 6) (f0 := 16) (v := ?_) rfl (by decide +kernel) (by decide +kernel) (by decide +kernel) (by decide +kernel) (by decide +kernel) (fun _ _ _ h => h) (Or.inl ⟨by rfl, ?_⟩) hHeld ?_
    rotate_left
    · intro wS hS; obtain ⟨hS1, hS2⟩ := hS; go_simp; (try with_reducible rfl)
    simp only [Act.put, List.getElem_toArray, List.getElem_cons_succ, List.getElem_cons_zero, List.setIfInBounds_toArray, List.set_cons_succ, List.set_cons_zero]
    refine wpAnyL_take (i := 7) (f0 := 16) (v := ?_) rfl (by decide +kernel) (by decide +kernel) (by decide +kernel) (by decide +kernel) (by decide +kernel) (fun _ _ _ h => h) (Or.inl ⟨by rfl, ?_⟩) hHeld ?_
    rotate_left
    · intro wS hS; obtain ⟨hS1, hS2⟩ := hS; obtain ⟨c0, c1, c2, c3, c4, c5, c6⟩ := iCells hS2; go_simp; (try with_reducible rfl)
    simp only [Act.put, List.getElem_toArray, List.getElem_cons_succ, List.getElem_cons_zero, List.setIfInBounds_toArray, List.set_cons_succ, List.set_cons_zero]
    refine wpAnyL_take (i := 8) (f0 := 16) (v := ?_) rfl (by decide +kernel) (by decide +kernel) (by decide +kernel) (by decide +kernel) (by decide +kernel) (fun _ _ _ h => h) (Or.inl ⟨by rfl, ?_⟩) hHeld ?_
    rotate_left
    · intro wS hS; obtain ⟨hS1, hS2⟩ := hS; go_simp; (try with_reducible rfl)
    simp only [Act.put, List.getElem_toArray, List.getElem_cons_succ, List.getElem_cons_zero, List.setIfInBounds_toArray, List.set_cons_succ, List.set_cons_zero]
    refine wpAnyL_take (i := 9) (f0 := 16) (v := ?_) rfl (by decide +kernel) (by decide +kernel) (by decide +kernel) (by decide +kernel) (by decide +kernel) (fun _ _ _ h => h) (Or.inl ⟨by rfl, ?_⟩) hHeld ?_
    rotate_left
    · intro wS hS; obtain ⟨hS1, hS2⟩ := hS; obtain ⟨c0, c1, c2, c3, c4, c5, c6⟩ := iCells hS2; go_simp; (try with_reducible rfl)
    simp only [Act.put, List.getElem_toArray, List.getElem_cons_succ, List.getElem_cons_zero, List.setIfInBounds_toArray, List.set_cons_succ, List.set_cons_zero]
    refine wpAnyL_one (i := 10) (by decide +kernel) (by rfl) (fun K hK => ?_)
    rw [if_pos (by rfl)]
    go_simp
    have hx10 := Below.news (Below.refl u0.heap.size u0) (.cells #[.string KW, .string x.id, .string x.parent, .string x.north, .string x.south] 9)
    have hHeld10 : (fun X_ : World => X_.heap[bo]? = some (.cells #[v] 27 (0, 0)) ∧ X_.heap[W.heap.size]? = some (.cells #[.int .i64 x.kind, .string x.id, .string x.parent, .string x.number, .string x.north, .string x.south, .bool x.gone] 26 (0, 0))) (u0.alloc (.cells #[.string KW, .string x.id, .string x.parent, .string x.north, .string x.south] 9)) := ⟨iNext hHeld.1 hx10, iNext hHeld.2 hx10⟩
    refine hK.out _ _ (Or.inr hHeld10) ?_
    clear hK K
    try simp only [Act.put, List.getElem_toArray, List.getElem_cons_succ, List.getElem_cons_zero, List.setIfInBounds_toArray, List.set_cons_succ, List.set_cons_zero]
    refine wpAnyL_one (i := 11) (by decide +kernel) (by rfl) (fun K hK => ?_)
    rw [if_pos (by rfl)]
    go_simp
    have hst5 : Strs (u0.alloc (.cells #[.string KW, .string x.id, .string x.parent, .string x.north, .string x.south] 9)) (u0.alloc (.cells #[.string KW, .string x.id, .string x.parent, .string x.north, .string x.south] 9)).heap.size (some ⟨u0.heap.size, 0, none⟩) [KW, x.id, x.parent, x.north, x.south] := Strs.new u0 _ _ _ rfl
    have hkw : KW.size ≤ 1 := by rw [← HKW.out]; split <;> decide
    refine (Code.joined_of _ 5 5 [KW, x.id, x.parent, x.north, x.south] rfl (by omega) (fun s hs => by
      rcases List.mem_cons.1 hs with rfl | hs
      · omega
      · refine HZ.out s ?_
        unfold Dg.fieldsI
        rcases List.mem_cons.1 hs with rfl | hs
        · simp
        · rcases List.mem_cons.1 hs with rfl | hs
          · simp
          · rcases List.mem_cons.1 hs with rfl | hs
            · simp
            · rcases List.mem_cons.1 hs with rfl | hs
              · simp
              · cases hs) _ (hed.next hx10) hst5 (Dg.leafI x) (by unfold Dg.leafI; rw [HKW.out])).mono ?_
    rintro e u11 ⟨rfl, hb11⟩
    have hx11 := bnext hx10 hb11
    have hHeld11 : (fun X_ : World => X_.heap[bo]? = some (.cells #[v] 27 (0, 0)) ∧ X_.heap[W.heap.size]? = some (.cells #[.int .i64 x.kind, .string x.id, .string x.parent, .string x.number, .string x.north, .string x.south, .bool x.gone] 26 (0, 0))) u11 := ⟨iNext hHeld.1 hx11, iNext hHeld.2 hx11⟩
    refine hK.out _ _ (Or.inr hHeld11) ?_
    clear hK K hst5 hHeld10
    try simp only [Act.put, List.getElem_toArray, List.getElem_cons_succ, List.getElem_cons_zero, List.setIfInBounds_toArray, List.set_cons_succ, List.set_cons_zero]
    obtain ⟨LF, hLF⟩ : ∃ F, Dg.leafI x = F := ⟨_, rfl⟩
    rw [hLF] at e2 ⊢
    refine wpAnyL_one (i := 12) (by decide +kernel) (by rfl) (fun K hK => ?_)
    rw [if_pos (by rfl)]
    go_simp
    have hx12 := bnext hx11 (Below.news (Below.refl u11.heap.size u11) (.cells #[.string LF] 9))
    have hHeld12 : (fun X_ : World => X_.heap[bo]? = some (.cells #[v] 27 (0, 0)) ∧ X_.heap[W.heap.size]? = some (.cells #[.int .i64 x.kind, .string x.id, .string x.parent, .string x.number, .string x.north, .string x.south, .bool x.gone] 26 (0, 0))) (u11.alloc (.cells #[.string LF] 9)) := ⟨iNext hHeld.1 hx12, iNext hHeld.2 hx12⟩
    refine hK.out _ _ (Or.inr hHeld12) ?_
    clear hK K hHeld11
    try simp only [Act.put, List.getElem_toArray, List.getElem_cons_succ, List.getElem_cons_zero, List.setIfInBounds_toArray, List.set_cons_succ, List.set_cons_zero]
    refine wpAnyL_one (i := 13) (by decide +kernel) (by rfl) (fun K hK => ?_)
    rw [if_pos (by rfl)]
    have hn00 : n0 ≤ u0.heap.size := Nat.le_trans hn0 hxd.size
    refine wp_ag (.tmp 21) (.tmp 33) (by rfl) n0 v L [LF] (by rfl) (OwnS.below hOd.own hx12) ⟨u11.heap.size, 0, none⟩ 1 1 (by rfl) rfl (fun j s hj => by
      cases j with
      | zero => cases hj; exact cell_of_row _ _ _ _ _ (0, 0) (heap_alloc_new u11 _)
      | succ j => cases hj) (by omega) (Nat.le_trans hn00 hx12.size) ?_
    intro v8 u13 hO8 hg8 hat8
    have hrw := (out_row hOd hbo hn00 hx12 hg8).1
    have hrow13 : u13.heap[W.heap.size]? = some (.cells #[.int .i64 x.kind, .string x.id, .string x.parent, .string x.number, .string x.north, .string x.south, .bool x.gone] 26 (0, 0)) := (hg8.block _ (lt_of_block hHeld12.2) (fun e => by have := (OwnV.lt hO.own e.symm).2; omega)).trans hHeld12.2
    have hHeld13 : (fun X_ : World => X_.heap[bo]? = some (.cells #[v] 27 (0, 0)) ∧ X_.heap[W.heap.size]? = some (.cells #[.int .i64 x.kind, .string x.id, .string x.parent, .string x.number, .string x.north, .string x.south, .bool x.gone] 26 (0, 0))) u13 := ⟨hrw, hrow13⟩
    refine hK.out _ _ (Or.inr hHeld13) ?_
    clear hK K hHeld12
    try simp only [Act.put, List.getElem_toArray, List.getElem_cons_succ, List.getElem_cons_zero, List.setIfInBounds_toArray, List.set_cons_succ, List.set_cons_zero]
    have fz := frozen_of_row _ bo 0 _ _ hrw
    have hoc := iCells0 hrw
    obtain ⟨A8, c8, e8, _, _⟩ := hO8.strs
    rw [show (L ++ [LF]).length = L.length + 1 by simp] at e8
    subst e8
    refine wpAnyL_one (i := 14) (by decide +kernel) (by rfl) (fun K hK => ?_)
    rw [if_pos (by rfl)]
    go_simp
    refine hK.out _ _ (Or.inl (by decide +kernel)) ?_
    clear hK K
    try simp only [Act.put, List.getElem_toArray, List.getElem_cons_succ, List.getElem_cons_zero, List.setIfInBounds_toArray, List.set_cons_succ, List.set_cons_zero]
    have HS := hide (out_done hO hbo hn0 (bnext hxd hx12) hg8 hO8 hat8)
    clear fz hoc hrw hrow13 hHeld13 hO8 hg8 hat8 hOd hx10 hb11 hx11 hx12
    refine wpAnyL_done (by decide +kernel) ?_ _
    refine NoPanic.normal ?_
    go_wp2
    go_end0
    exact ⟨rfl, by rw [← e2.out]; exact HS.out⟩
end Go.Proofs.YtobhpeockinnjaaGreatDoor
/- Leaves of package code, the whole. No conditions but those that each theorem states. -/
namespace Go.Proofs.YtobhpeockinnjaaGreatDoor
open Go Go.RowKit Go.Sort Go.Maps
theorem Env.same {w w' : World} (h : Env w) (hg : w'.heap[0]? = w.heap[0]?) : Env w' := by
  unfold Env Lib.TabIs at h ⊢
  unfold World.var? at h ⊢
  simp only [gPow, Option.bind_some] at h ⊢
  rw [hg]
  exact h
theorem leavesOf_snoc (l : List Dg.It) (k : Nat) (hk : k < l.length) : Dg.leavesOf (l.take (k + 1)) = if l[k].gone = true then Dg.leavesOf (l.take k) else Dg.leavesOf (l.take k) ++ [Dg.leafI l[k]] := by
  unfold Dg.leavesOf
  rw [List.take_succ_eq_append_getElem hk, List.filter_append, List.map_append]
  by_cases h : l[k].gone = true
  · rw [if_pos h, List.filter_cons_of_neg (by simp [h]), List.filter_nil, List.map_nil, List.append_nil]
  · rw [if_neg h, List.filter_cons_of_pos (by simpa using h), List.filter_nil]; rfl
theorem leavesOf_len (l : List Dg.It) : (Dg.leavesOf l).length ≤ l.length := by
  unfold Dg.leavesOf
  rw [List.length_map]
  exact List.length_filter_le _ _
theorem visit_kind {l : List Dg.It} {k : Nat} (hk : k < l.length) {r : List (List ByteArray) × Dg.Wk} (h : Dg.walkTo l (k + 1) = some r) : l[k].kind = 1 ∨ l[k].kind = 2 := by
  obtain ⟨vs, s⟩ := r
  obtain ⟨vs0, s0, o, _, h2, _⟩ := Dg.walk_step hk h
  have hp := (Dg.stepI_some h2).1
  rcases Dg.proper_kind hp with ⟨e, _⟩ | ⟨e, _⟩
  · exact Or.inl e
  · exact Or.inr e
set_option maxRecDepth 100000 in
set_option maxHeartbeats 4000000 in
theorem Code.leaves_of (l : List Dg.It) (A : Option Addr) (n c : Nat) (hl : l.length = n) (hw : ∀ x ∈ l, ItW x) (hn : n ≤ 1048576) (w : World) (he : Env w) (hI : Its w w.heap.size A l) (hz : ∀ x ∈ l, ∀ s ∈ Dg.fieldsI x, s.size ≤ 1073741824) (L : List ByteArray) (hL : Dg.leavesC l = L) :
    Calls Tryz.prog 32 #[.agg #[.slice A n c]] w fun e w' => (∃ A' c', e = .returned (.slice A' L.length c') ∧ L.length ≤ c' ∧ Strs w' w'.heap.size A' L) ∧ Below w.heap.size w w' := by
  obtain ⟨r2, ro, hb, hs⟩ := iAlloc2 w (.cells #[.slice A n c] 24) (.cells #[.slice none 0 0] 27)
  have hmf : ∀ (fn : Fn) (first cap : Array Value) (w : World), (Instr.makeFunc fn first cap).run Tryz.prog w = .ok (.func fn first cap) w := fun _ _ _ _ => rfl
  have HI := hide hI; have HW := hide hw; have HL := hide hl; have HQ := hide hL; have HZ := hide hz
  have hgl := he.lt
  clear hI hw hl hL hz
  go_enter Tryz.func32, Tryz.ntmps32
  go_wp2_with fail
  obtain ⟨R, hR⟩ : ∃ R, Dg.validC l = R := ⟨_, rfl⟩
  generalize (w.alloc (.cells #[.slice A n c] 24)).alloc (.cells #[.slice none 0 0] 27) = W1 at *
  refine (out_walk l A n c HL.out HW.out (by omega) w.heap.size (w.heap.size + 1) W1 (HI.out.below hb) (by omega) (by omega) (fun W => W.heap[w.heap.size]? = some (.cells #[.slice A n c] 24 (0, 0)) ∧ Its W w.heap.size A l ∧ Env W)
    (fun W W' h hg => ⟨(hg _ (by omega) (by omega)).trans h.1, h.2.1.same fun g hg' => hg g (by omega) (by omega), h.2.2.same (hg _ (by omega) (by omega))⟩) (fun vs => Dg.leavesOf (l.take vs.length)) (enters_of Tryz.func65 (by kernel_rfl) rfl)
    (fun k W v o A' c' vs s hk hlow hO hn0 hwt hvl hS hoc => by
      subst hvl
      have h1 := leaves1_any l A n c HL.out w.heap.size W1.heap.size (w.heap.size + 1) w.heap.size (by omega) (by omega) vs.length hk W hlow.2.2 hlow.2.1 (visit_kind hk hwt) (HZ.out _ (List.getElem_mem hk)) hlow.1 v _ hO (by have h9 := leavesOf_len (l.take vs.length); rw [List.length_take] at h9; have := HL.out; omega) hn0 A' o.length c'
      rw [← leavesOf_snoc l vs.length hk] at h1
      rw [List.length_append, List.length_singleton]
      exact h1)
    ⟨ro, OwnS.nil _ _⟩ ⟨r2, HI.out.below hb, he.next hb⟩ R hR).mono ?_
  rintro e w2 ⟨rfl, v, L', hL', hO2, _, hb2, hsz2⟩
  have hb' : Below w.heap.size w w2 := hb.trans (hb2.mono (by omega))
  obtain ⟨A2, c2, rfl, hc2, hS2⟩ := hO2.own.strs
  have hcc := iCells0 hO2.row
  have hq := HQ.out
  unfold Dg.leavesC at hq
  rw [hR] at hq
  have HLL := hide hL'
  have hv := hide hR
  clear hL' hb hb2 r2 ro hO2 hR HQ hgl
  cases R with
  | false =>
    rw [if_neg Bool.false_ne_true] at hq
    subst hq
    go_wp2
    go_ret
    exact ⟨⟨none, 0, rfl, Nat.le_refl _, Strs.nil _ _ _⟩, hb'⟩
  | true =>
    rw [if_pos rfl] at hq
    have e9 := HLL.out rfl
    rw [visits_le l hv.out, List.take_length, hq] at e9
    subst e9
    have HQ2 := hide hq
    clear hq
    go_wp2
    go_ret
    exact ⟨⟨A2, c2, rfl, hc2, hS2⟩, hb'⟩
end Go.Proofs.YtobhpeockinnjaaGreatDoor
/- Slices of items of the call's own. No conditions but those that each theorem states. -/
namespace Go.Proofs.YtobhpeockinnjaaGreatDoor
open Go Go.RowKit Go.Sort Go.Maps
def itL (x : Dg.It) : List Value := [.int .i64 x.kind, .string x.id, .string x.parent, .string x.number, .string x.north, .string x.south, .bool x.gone]
/-- Items of the call's own, from block B on. -/
def OwnI (w : World) (B : Nat) (v : Value) (l : List Dg.It) : Prop := w.ownsRow B 26 7 v l.length (l.flatMap itL)
theorem itL_len (l : List Dg.It) : (l.flatMap itL).length = l.length * 7 := by
  induction l with
  | nil => rfl
  | cons c l ih => rw [List.flatMap_cons, List.length_append, ih, List.length_cons]; show 7 + l.length * 7 = _; omega
theorem itL_get : ∀ (l : List Dg.It) (j i : Nat) (x : Dg.It), l[j]? = some x → i < 7 → (l.flatMap itL)[j * 7 + i]? = (itL x)[i]?
  | [], j, i, c, h, _ => by simp at h
  | a :: l, 0, i, c, h, hi => by
    obtain rfl : a = c := by simpa using h
    rw [List.flatMap_cons, Nat.zero_mul, Nat.zero_add, List.getElem?_append_left (by exact hi)]
  | a :: l, j + 1, i, c, h, hi => by
    have h7 : (itL a).length = 7 := rfl
    rw [List.flatMap_cons, List.getElem?_append_right (by omega), h7, show (j + 1) * 7 + i - 7 = j * 7 + i by omega]
    exact itL_get l j i c (by simpa using h) hi
theorem OwnI.below {w w' : World} {B : Nat} {v : Value} {l : List Dg.It} (h : OwnI w B v l) (hb : Below w.heap.size w w') : OwnI w' B v l := own_below h hb
theorem OwnI.its {w : World} {B : Nat} {v : Value} {l : List Dg.It} (h : OwnI w B v l) : ∃ A c, v = .slice A l.length c ∧ l.length ≤ c ∧ Its w w.heap.size A l := by
  rcases h.2 with ⟨rfl, h0⟩ | ⟨g, cap, cur, rfl, hB, hg, hc, _, hsz, hx⟩
  · obtain rfl := List.length_eq_zero_iff.1 h0
    exact ⟨none, 0, rfl, Nat.le_refl _, Its.nil _ _ _⟩
  · refine ⟨_, cap, rfl, hc, ⟨fun _ => ⟨g, 0, rfl, lt_of_block hg, fun j x hj i u hu => ?_⟩⟩⟩
    have hi : i < 7 := (Array.getElem?_eq_some_iff.1 hu).1
    rw [Nat.zero_add, cell_of_row _ _ _ _ _ (0, 0) hg, ← Array.getElem?_toList]
    have h1 : (cur.toList.take (l.length * 7))[j * 7 + i]? = some u := by
      rw [hx, itL_get l j i x hj hi]
      rw [← Array.getElem?_toList] at hu
      exact hu
    rw [List.getElem?_take] at h1
    split at h1
    · exact h1
    · cases h1
theorem OwnI.lit (w : World) (B : Nat) (hB : B ≤ w.heap.size) (l : List Dg.It) (n : Nat) (hn : l.length = n) (hm : n ≤ 1099511627776) (cs : Array Value) (h : cs.toList = l.flatMap itL) : OwnI (w.alloc (.cells cs 26)) B (.slice (some ⟨w.heap.size, 0, none⟩) n n) l := by
  subst hn
  have h1 : cs.size = l.length * 7 := by rw [← Array.length_toList, h, itL_len]
  have h2 := World.ownsRow_lit (e := 26) (size := 7) w cs l.length hB (by unfold maxLen; omega) h1
  unfold OwnI
  rw [← h]
  exact h2
/-- Cells of items in a row, or none. -/
def SrcI (w : World) (A : Option Addr) (l : List Dg.It) : Prop := l = [] ∨ ∃ b off, A = some ⟨b, off, none⟩ ∧ ∀ (j : Nat) u, (l.flatMap itL)[j]? = some u → w.cell? ⟨b, off + j, none⟩ = some u
theorem Its.src {w : World} {B : Nat} {A : Option Addr} {l : List Dg.It} (h : Its w B A l) : SrcI w A l := by
  rcases Nat.eq_zero_or_pos l.length with h0 | h0
  · exact Or.inl (List.length_eq_zero_iff.1 h0)
  · obtain ⟨b, off, rfl, hb, hc⟩ := h.at_ h0
    refine Or.inr ⟨b, off, rfl, fun j u hu => ?_⟩
    have hjl : j < l.length * 7 := by
      have := (List.getElem?_eq_some_iff.1 hu).1
      rw [itL_len] at this
      exact this
    have hd : j / 7 < l.length := by omega
    have hm : j % 7 < 7 := Nat.mod_lt _ (by omega)
    have hj : j = j / 7 * 7 + j % 7 := by omega
    rw [hj, itL_get l _ _ _ (List.getElem?_eq_getElem hd) hm] at hu
    have := hc (j / 7) _ (List.getElem?_eq_getElem hd) (j % 7) u (by rw [← Array.getElem?_toList]; exact hu)
    rw [hj, show off + (j / 7 * 7 + j % 7) = off + j / 7 * 7 + j % 7 by omega]
    exact this
end Go.Proofs.YtobhpeockinnjaaGreatDoor
/- Few of the reference, few of the laws. No conditions but those that each theorem states. -/
namespace Go.Proofs.YtobhpeockinnjaaGreatDoor
open Go Go.RowKit Go.Sort Go.Maps
/-- An item whose strings have at most 500 bytes. -/
def smallI (x : Dg.It) : Bool := decide (x.id.size ≤ 500) && decide (x.parent.size ≤ 500) && decide (x.number.size ≤ 500) && decide (x.north.size ≤ 500) && decide (x.south.size ≤ 500)
def fewC (l : List Dg.It) (m : Nat) : Bool := decide (l.length ≤ m) && (l.take m).all smallI
theorem smallI_iff (x : Dg.It) : smallI x = true ↔ x.id.size ≤ 500 ∧ x.parent.size ≤ 500 ∧ x.number.size ≤ 500 ∧ x.north.size ≤ 500 ∧ x.south.size ≤ 500 := by
  unfold smallI
  simp only [Bool.and_eq_true, decide_eq_true_eq, and_assoc]
theorem fewC_spec {l : List Dg.It} {m : Nat} (h : fewC l m = true) : l.length ≤ m ∧ ∀ x ∈ l, smallI x = true := by
  unfold fewC at h
  rw [Bool.and_eq_true, decide_eq_true_eq] at h
  refine ⟨h.1, fun x hx => ?_⟩
  rw [List.take_of_length_le h.1, List.all_eq_true] at h
  exact h.2 x hx
theorem small_fields {x : Dg.It} (h : smallI x = true) : ∀ s ∈ Dg.fieldsI x, s.size ≤ 500 := fun s hs => by
  obtain ⟨h1, h2, h3, h4, h5⟩ := (smallI_iff x).1 h
  unfold Dg.fieldsI at hs
  simp only [List.mem_cons, List.not_mem_nil, or_false] at hs
  rcases hs with rfl | rfl | rfl | rfl | rfl | rfl
  · unfold Dg.kindW; split <;> (try split) <;> decide
  · exact h1
  · exact h2
  · exact h3
  · exact h4
  · exact h5
theorem fewC_no {l : List Dg.It} {m k : Nat} (hk : k < l.length) (hm : k < m) (h : smallI l[k] = false) : fewC l m = false := by
  unfold fewC
  have : (l.take m).all smallI = false := by
    rw [List.all_eq_false]
    exact ⟨l[k], List.mem_take_iff_getElem.2 ⟨k, by omega, rfl⟩, by rw [h]; exact Bool.false_ne_true⟩
  rw [this, Bool.and_false]
theorem fewC_yes {l : List Dg.It} {m : Nat} (hm : l.length ≤ m) (h : ∀ x ∈ l, smallI x = true) : fewC l m = true := by
  unfold fewC
  rw [decide_eq_true hm, Bool.true_and, List.take_of_length_le hm, List.all_eq_true]
  exact h
theorem fewC_many {l : List Dg.It} {m : Nat} (hm : m < l.length) : fewC l m = false := by
  unfold fewC
  rw [decide_eq_false (by omega), Bool.false_and]
set_option maxRecDepth 100000 in
set_option maxHeartbeats 8000000 in
theorem rfew_of (l : List Dg.It) (A : Option Addr) (n c m : Nat) (hl : l.length = n) (hn : n ≤ 9223372036854775807) (hm : m ≤ 1000) (w : World) (hI : Its w w.heap.size A l) (R : Bool) (hR : fewC l m = R) :
    Calls Tryz.prog 41 #[.agg #[.slice A n c], .int .i64 (m : Int)] w fun e w' => e = .returned (.bool R) ∧ Below w.heap.size w w' := by
  have hx1 := Below.news (Below.refl w.heap.size w) (.cells #[.slice A n c] 24)
  have hrow := heap_alloc_new w (.cells #[.slice A n c] 24)
  have HL := hide hl; have HR := hide hR; have HI := hide hI
  clear hl hR hI
  go_enter Tryz.func41, Tryz.ntmps41
  go_wp2
  go_loopw [5] (fun iv wr => ∃ k : Nat, k ≤ n ∧ k ≤ m ∧ iv = .int .i64 (k : Int) ∧ Below w.heap.size w wr ∧ wr.heap[w.heap.size]? = some (.cells #[.slice A n c] 24 (0, 0)) ∧ Hid (∀ x ∈ l.take k, smallI x = true)) (fun iv _ => n - (intOf iv).toNat)
  case atStart => exact ⟨0, by omega, by omega, rfl, hx1, hrow, fun x hx => by simp at hx⟩
  case round =>
    obtain ⟨k, hk, hkm, rfl, hb, hr, hall⟩ := hrel
    clear hrow hx1
    have hc := iCells0 hr
    by_cases hlt : k < n
    · have hkn : (k : Int) < (n : Int) := by omega
      by_cases hlm : k < m
      · have hkm2 : (k : Int) < (m : Int) := by omega
        have hk0 : (0 : Int) ≤ (k : Int) := by omega
        have hkl : k < l.length := by rw [HL.out]; exact hlt
        have hIr := HI.out.below hb
        obtain ⟨b, off, rfl⟩ := hIr.some hkl
        obtain ⟨x, hx⟩ : ∃ x, l[k] = x := ⟨_, rfl⟩
        obtain ⟨hbl, p0, p1, p2, p3, p4, p5, p6⟩ := hIr.cells hkl x hx
        have HX := hide hx
        clear hx hIr
        have hx2 := Below.news (Below.refl wr.heap.size wr) (.cells #[.int .i64 x.kind, .string x.id, .string x.parent, .string x.number, .string x.north, .string x.south, .bool x.gone] 26)
        have hrx := heap_alloc_new wr (.cells #[.int .i64 x.kind, .string x.id, .string x.parent, .string x.number, .string x.north, .string x.south, .bool x.gone] 26)
        have hr2 := iNext hr hx2
        have hb2 := bnext hb hx2
        go_upto_region 5 with (fail)
        generalize wr.alloc (.cells #[.int .i64 x.kind, .string x.id, .string x.parent, .string x.number, .string x.north, .string x.south, .bool x.gone] 26) = w2 at *
        obtain ⟨c0, c1, c2, c3, c4, c5, c6⟩ := iCells hrx
        clear p0 p1 p2 p3 p4 p5 p6 hc hr hx2 hb
        by_cases s0 : (500 : Int) < (x.id.size : Int)
        · skip
          have E9 := hide (show false = R by rw [← HR.out]; exact (fewC_no hkl hlm (by rw [HX.out]; cases hs : smallI x with | false => rfl | true => exact absurd ((smallI_iff x).1 hs) (by omega))).symm)
          go_wp2
          go_ret
          exact ⟨ret_bool E9.out, hb2⟩
        by_cases s1 : (500 : Int) < (x.parent.size : Int)
        · skip
          have E9 := hide (show false = R by rw [← HR.out]; exact (fewC_no hkl hlm (by rw [HX.out]; cases hs : smallI x with | false => rfl | true => exact absurd ((smallI_iff x).1 hs) (by omega))).symm)
          go_wp2
          go_ret
          exact ⟨ret_bool E9.out, hb2⟩
        by_cases s2 : (500 : Int) < (x.number.size : Int)
        · skip
          have E9 := hide (show false = R by rw [← HR.out]; exact (fewC_no hkl hlm (by rw [HX.out]; cases hs : smallI x with | false => rfl | true => exact absurd ((smallI_iff x).1 hs) (by omega))).symm)
          go_wp2
          go_ret
          exact ⟨ret_bool E9.out, hb2⟩
        by_cases s3 : (500 : Int) < (x.north.size : Int)
        · skip
          have E9 := hide (show false = R by rw [← HR.out]; exact (fewC_no hkl hlm (by rw [HX.out]; cases hs : smallI x with | false => rfl | true => exact absurd ((smallI_iff x).1 hs) (by omega))).symm)
          go_wp2
          go_ret
          exact ⟨ret_bool E9.out, hb2⟩
        by_cases s4 : (500 : Int) < (x.south.size : Int)
        · skip
          have E9 := hide (show false = R by rw [← HR.out]; exact (fewC_no hkl hlm (by rw [HX.out]; cases hs : smallI x with | false => rfl | true => exact absurd ((smallI_iff x).1 hs) (by omega))).symm)
          go_wp2
          go_ret
          exact ⟨ret_bool E9.out, hb2⟩
        have HS := hide (show smallI x = true from (smallI_iff x).2 (by omega))
        go_wp2
        go_roundw
        case rel => exact ⟨k + 1, by omega, by omega, by go_num, hb2, hr2, fun y hy => by
          rw [List.take_succ_eq_append_getElem hkl, HX.out] at hy
          rcases List.mem_append.1 hy with h | h
          · exact hall.out y h
          · rw [List.mem_singleton.1 h]; exact HS.out⟩
        case measure => simp [intOf]; omega
      · obtain rfl : k = m := by omega
        have hkm2 : ¬ (k : Int) < (k : Int) := by omega
        have hnn : ¬ (n : Int) ≤ (k : Int) := by omega
        have hf := fewC_many (l := l) (m := k) (by rw [HL.out]; exact hlt)
        have e9 := HR.out
        rw [hf] at e9
        have E9 := hide e9
        clear hf e9
        go_wp2
        go_ret
        exact ⟨ret_bool E9.out, hb⟩
    · obtain rfl : k = n := by omega
      have hkn : ¬ (k : Int) < (k : Int) := by omega
      have hnn : (k : Int) ≤ (m : Int) := by omega
      have hf := fewC_yes (l := l) (m := m) (by rw [HL.out]; exact hkm) (by have h := hall.out; rw [← HL.out, List.take_length] at h; exact h)
      have e9 := HR.out
      rw [hf] at e9
      have E9 := hide e9
      clear hf e9
      go_wp2
      go_ret
      exact ⟨ret_bool E9.out, hb⟩
end Go.Proofs.YtobhpeockinnjaaGreatDoor
/- Fields of the reference for codes. No conditions but those that each theorem states. -/
namespace Go.Proofs.YtobhpeockinnjaaGreatDoor
open Go Go.RowKit Go.Sort Go.Maps
theorem grown_row {u u' : World} {own : Option Nat} {g : Nat} {o : Obj} (hg : u.grownBy u' own) (h : u.heap[g]? = some o) (hne : ∀ k, own = some k → k ≠ g) : u'.heap[g]? = some o :=
  (hg.block g (lt_of_block h) (fun e => hne g e.symm rfl)).trans h
theorem grown_up {B : Nat} {a u u' : World} {own : Option Nat} (hb : Below B a u) (hg : u.grownBy u' own) (hne : ∀ k, own = some k → B ≤ k) (hs : B ≤ a.heap.size := by omega) : Below B a u' :=
  hb.grown hg (Nat.le_trans hs hb.size) hne
end Go.Proofs.YtobhpeockinnjaaGreatDoor
/- Small lemmas on strings. No conditions but those that each theorem states. -/
namespace Go.Proofs.YtobhpeockinnjaaGreatDoor
open Go Go.RowKit Go.Sort Go.Maps
theorem bs_iff (a b : ByteArray) : (a.toList == b.toList) = true ↔ a = b := by
  rw [beq_iff_eq]
  constructor
  · intro h
    rw [ByteArray.toList_eq, ByteArray.toList_eq] at h
    obtain ⟨⟨x⟩⟩ := a
    obtain ⟨⟨y⟩⟩ := b
    simpa using h
  · rintro rfl; rfl
theorem bs_yes {a b : ByteArray} (h : a = b) : (a.toList == b.toList) = true := (bs_iff a b).2 h
theorem bs_no {a b : ByteArray} (h : a ≠ b) : (a.toList == b.toList) = false := by
  cases e : a.toList == b.toList with
  | false => rfl
  | true => exact absurd ((bs_iff a b).1 e) h
theorem ret_intV {k : IntKind} {a b : Int} (h : a = b) : Ending.returned (.int k a) = .returned (.int k b) := by rw [h]
def sliceLen : Value → Nat
  | .slice _ n _ => n
  | _ => 0
end Go.Proofs.YtobhpeockinnjaaGreatDoor
/- Leaf of the reference, leaf of package proof. No conditions but those that each theorem states. -/
namespace Go.Proofs.YtobhpeockinnjaaGreatDoor
open Go Go.RowKit Go.Sort Go.Maps
def kindS (x : Dg.It) : ByteArray := if x.kind = 1 then Dg.sD else Dg.sA
def leafS (x : Dg.It) : List ByteArray := [kindS x, x.id, x.parent, x.north, x.south]
theorem leafI_eq (x : Dg.It) : Dg.leafI x = Dg.jB (leafS x) := rfl
theorem leafS_size {x : Dg.It} {z : Nat} (hz : 1 ≤ z) (h : ∀ s ∈ Dg.fieldsI x, s.size ≤ z) : ∀ s ∈ leafS x, s.size ≤ z := fun s hs => by
  unfold leafS at hs
  unfold Dg.fieldsI at h
  simp only [List.mem_cons, List.not_mem_nil, or_false] at hs h
  rcases hs with rfl | rfl | rfl | rfl | rfl
  · unfold kindS; split <;> exact hz
  · exact h _ (Or.inr (Or.inl rfl))
  · exact h _ (Or.inr (Or.inr (Or.inl rfl)))
  · exact h _ (Or.inr (Or.inr (Or.inr (Or.inr (Or.inl rfl)))))
  · exact h _ (Or.inr (Or.inr (Or.inr (Or.inr (Or.inr rfl)))))
set_option maxRecDepth 100000 in
set_option maxHeartbeats 4000000 in
theorem rleaf_of (x : Dg.It) (hz : ∀ s ∈ leafS x, s.size ≤ 1048576) (w : World) (K : ByteArray) (hK : Dg.leafI x = K) :
    Calls Tryz.prog 37 #[.agg #[.int .i64 x.kind, .string x.id, .string x.parent, .string x.number, .string x.north, .string x.south, .bool x.gone]] w fun e w' => e = .returned (.string K) ∧ Below w.heap.size w w' := by
  have hx1 := Below.news (Below.refl w.heap.size w) (.cells #[.int .i64 x.kind, .string x.id, .string x.parent, .string x.number, .string x.north, .string x.south, .bool x.gone] 26)
  have hrow := heap_alloc_new w (.cells #[.int .i64 x.kind, .string x.id, .string x.parent, .string x.number, .string x.north, .string x.south, .bool x.gone] 26)
  have HZ := hide hz; have HK := hide hK
  clear hz hK
  obtain ⟨c0, c1, c2, c3, c4, c5, c6⟩ := iCells hrow
  go_enter Tryz.func37, Tryz.ntmps37
  by_cases kz : x.kind = 1
  · have kb : (x.kind == 1) = true := beq_iff_eq.2 kz
    have ek : kindS x = ⟨#[100]⟩ := if_pos kz
    have HJ := hide (joined_new (leafS x) #[.string ⟨#[100]⟩, .string x.id, .string x.parent, .string x.north, .string x.south] 9 5 5 rfl (by show 5 ≤ 8; decide) HZ.out K HK.out (w.alloc (.cells #[.int .i64 x.kind, .string x.id, .string x.parent, .string x.number, .string x.north, .string x.south, .bool x.gone] 26)) (by unfold leafS; rw [ek]; rfl) (w.heap.size + 1) (by simp))
    clear kz ek
    go_wp2_with fail
    refine HJ.out.mono ?_
    rintro e w2 ⟨rfl, hb⟩
    have hb2 := bnext hx1 hb
    clear hb HJ
    go_wp2
    go_ret
    exact ⟨rfl, hb2⟩
  · have kb : (x.kind == 1) = false := beq_eq_false_iff_ne.2 kz
    have ek : kindS x = ⟨#[97]⟩ := if_neg kz
    have HJ := hide (joined_new (leafS x) #[.string ⟨#[97]⟩, .string x.id, .string x.parent, .string x.north, .string x.south] 9 5 5 rfl (by show 5 ≤ 8; decide) HZ.out K HK.out (w.alloc (.cells #[.int .i64 x.kind, .string x.id, .string x.parent, .string x.number, .string x.north, .string x.south, .bool x.gone] 26)) (by unfold leafS; rw [ek]; rfl) (w.heap.size + 1) (by simp))
    clear kz ek
    go_wp2_with fail
    refine HJ.out.mono ?_
    rintro e w2 ⟨rfl, hb⟩
    have hb2 := bnext hx1 hb
    clear hb HJ
    go_wp2
    go_ret
    exact ⟨rfl, hb2⟩
theorem appendInt_of (B : Nat) (l : List UInt8) (n : Nat) (hn : n ≤ 9223372036854775807) (v : Value) (w : World) (hO : OwnB w B v l) (hB : B ≤ w.heap.size) (hl : l.length + 21 ≤ 140737488355328) (hT : Lib.TabBelow Tryz.prog B w "internal/strconv.uint64pow10" .u64 Lib.pow10Tab) :
    Calls Tryz.prog 92 #[v, .int .i64 (n : Int), .int .i64 10] w fun e w' => ∃ v', e = .returned v' ∧ OwnB w' B v' (l ++ Dg.L (decB n)) ∧ Below B w w' := by
  refine (Tryz.strconv_AppendInt_10 B l.length n (by omega) (by omega) v _ w hO hB hl hT).mono ?_
  rintro e w' ⟨v', rfl, h1, h2, _⟩
  refine ⟨v', rfl, ?_, h2⟩
  have e1 : Lib.itoa (n : Int) = Dg.L (decB n) := by
    unfold Lib.itoa decB
    rw [if_neg (by omega), Int.toNat_natCast, Dg.L_B]
  unfold OwnB
  rw [List.length_append, Lib.byteCells_append, ← e1]
  exact h1
set_option maxRecDepth 100000 in
theorem tabB {w : World} (he : Env w) : Lib.TabBelow Tryz.prog w.heap.size w "internal/strconv.uint64pow10" .u64 Lib.pow10Tab := Lib.tabBelow_of_tabIs he
set_option maxHeartbeats 8000000 in
theorem pleaf_of (x : Dg.It) (hz : ∀ s ∈ leafS x, s.size ≤ 1048576) (w : World) (he : Env w) (K : ByteArray) (hK : Dg.leafI x = K) :
    Calls Tryz.prog 50 #[.agg #[.int .i64 x.kind, .string x.id, .string x.parent, .string x.number, .string x.north, .string x.south, .bool x.gone]] w fun e w' => e = .returned (.string K) ∧ Below w.heap.size w w' := by
  have hx1 := Below.news (Below.refl w.heap.size w) (.cells #[.int .i64 x.kind, .string x.id, .string x.parent, .string x.number, .string x.north, .string x.south, .bool x.gone] 26)
  have hrow := heap_alloc_new w (.cells #[.int .i64 x.kind, .string x.id, .string x.parent, .string x.number, .string x.north, .string x.south, .bool x.gone] 26)
  have HZ := hide hz; have HK := hide hK
  clear hz hK
  obtain ⟨c0, c1, c2, c3, c4, c5, c6⟩ := iCells hrow
  have hlf : leafS x = [kindS x, x.id, x.parent, x.north, x.south] := rfl
  have HLF := hide hlf
  go_enter Tryz.func50, Tryz.ntmps50
  by_cases kz : x.kind = 1
  · have kb : (x.kind == 1) = true := beq_iff_eq.2 kz
    have ek : kindS x = ⟨#[100]⟩ := if_pos kz
    rw [ek] at hlf
    have HS := hide (Strs.new (w.alloc (.cells #[.int .i64 x.kind, .string x.id, .string x.parent, .string x.number, .string x.north, .string x.south, .bool x.gone] 26)) (leafS x) #[.string ⟨#[100]⟩, .string x.id, .string x.parent, .string x.north, .string x.south] 9 (by rw [hlf]; rfl))
    have hx2 := Below.news (Below.refl (w.alloc (.cells #[.int .i64 x.kind, .string x.id, .string x.parent, .string x.number, .string x.north, .string x.south, .bool x.gone] 26)).heap.size (w.alloc (.cells #[.int .i64 x.kind, .string x.id, .string x.parent, .string x.number, .string x.north, .string x.south, .bool x.gone] 26))) (.cells #[.string ⟨#[100]⟩, .string x.id, .string x.parent, .string x.north, .string x.south] 9)
    have hb0 := bnext hx1 hx2
    have HT := hide (tabB (he.next hb0))
    have hs2 : (w.alloc (.cells #[.int .i64 x.kind, .string x.id, .string x.parent, .string x.number, .string x.north, .string x.south, .bool x.gone] 26)).heap.size = w.heap.size + 1 := by simp
    rw [hs2] at HS
    clear kz ek hlf hs2 hx2
    go_wp2
    generalize (w.alloc (.cells #[.int .i64 x.kind, .string x.id, .string x.parent, .string x.number, .string x.north, .string x.south, .bool x.gone] 26)).alloc (.cells #[.string ⟨#[100]⟩, .string x.id, .string x.parent, .string x.north, .string x.south] 9) = w2 at *
    clear c0 c1 c2 c3 c4 c5 c6 hrow hx1
    go_loopw [4, 21] (fun v iv wr => ∃ k : Nat, k ≤ 5 ∧ iv = .int .i64 (k : Int) ∧ Below w2.heap.size w2 wr ∧ OwnB wr w2.heap.size v (Dg.joinedL ((leafS x).take k))) (fun _ iv _ => 5 - (intOf iv).toNat)
    case atStart => exact ⟨0, by omega, rfl, Below.refl _ _, World.ownsRow_nil _ _ _ 1⟩
    case round =>
      obtain ⟨k, hk, rfl, hb, hO⟩ := hrel
      have hz1 := hb.size
      by_cases hlt : k < 5
      · have hkl : k < (leafS x).length := hlt
        have hk5 : (k : Int) < 5 := by omega
        have hk0 : (0 : Int) ≤ (k : Int) := by omega
        obtain ⟨b, off, eA, hbl, hcell⟩ := (HS.out.below hb).get hkl
        cases eA
        have hsz := HZ.out (leafS x)[k] (List.getElem_mem hkl)
        have hst := hide (joinedL_step (leafS x) k hkl (by omega))
        have hle := Dg.joinedL_len_le ((leafS x).take k) 1048576 (fun s hs => HZ.out s (List.mem_of_mem_take hs))
        have hle2 : ((leafS x).take k).length ≤ 5 := by rw [List.length_take]; omega
        have hle3 : (Dg.joinedL ((leafS x).take k)).length ≤ 5 * (1048576 + 21) := Nat.le_trans hle (Nat.mul_le_mul_right _ hle2)
        clear hle hle2
        obtain ⟨y, hy⟩ : ∃ y, (leafS x)[k] = y := ⟨_, rfl⟩
        rw [hy] at hcell hsz hst
        rw [Nat.zero_add] at hcell
        have HT2 := hide (HT.out.on hb)
        have hd := decB_size y.size (by omega)
        clear hy
        go_wp2_with fail
        refine (appendInt_of w2.heap.size _ y.size (by omega) _ wr hO hz1 (by omega) HT2.out).mono ?_
        rintro e w3 ⟨v3, rfl, hO3, hb3⟩
        have hz3 := hb3.size
        clear hcell HT2 hO
        go_wp2_with (first
          | (at_builtin; refine step_byte w3 rfl (.tmp 28) (.tmp 29) rfl 58 _ rfl w2.heap.size _ _ rfl hO3 rfl ?_ ?_ ?_; rw [List.length_append, Dg.len_L]; omega; omega; intro v4 w4 hO4 hb4; have hz4 := hb4.size)
          | (at_builtin; refine step_str _ rfl (.tmp 31) (.tmp 32) rfl w2.heap.size _ _ rfl hO4 y rfl ?_ ?_ ?_; rw [List.length_append, List.length_append, Dg.len_L]; simp; omega; omega; intro v5 w5 hO5 hb5; have hz5 := hb5.size)
          | fail)
        rw [hst.out] at hO5
        have hb6 := ((hb.trans hb3).trans hb4).trans hb5
        go_roundw
        case rel => exact ⟨k + 1, by omega, by go_num, hb6, hO5⟩
        case measure => simp [intOf]; omega
      · obtain rfl : k = 5 := by omega
        have e5 : (leafS x).take 5 = leafS x := rfl
        rw [e5] at hO
        obtain ⟨A', c', rfl⟩ := hO.form
        have hcv := conv_own (P := Tryz.prog) 125 9 hO (by kernel_rfl) (by kernel_rfl)
        rw [show Dg.B (Dg.joinedL (leafS x)) = K from HK.out] at hcv
        go_wp2
        go_ret
        exact ⟨rfl, bnext hb0 hb⟩
  · have kb : (x.kind == 1) = false := beq_eq_false_iff_ne.2 kz
    have ek : kindS x = ⟨#[97]⟩ := if_neg kz
    rw [ek] at hlf
    have HS := hide (Strs.new (w.alloc (.cells #[.int .i64 x.kind, .string x.id, .string x.parent, .string x.number, .string x.north, .string x.south, .bool x.gone] 26)) (leafS x) #[.string ⟨#[97]⟩, .string x.id, .string x.parent, .string x.north, .string x.south] 9 (by rw [hlf]; rfl))
    have hx2 := Below.news (Below.refl (w.alloc (.cells #[.int .i64 x.kind, .string x.id, .string x.parent, .string x.number, .string x.north, .string x.south, .bool x.gone] 26)).heap.size (w.alloc (.cells #[.int .i64 x.kind, .string x.id, .string x.parent, .string x.number, .string x.north, .string x.south, .bool x.gone] 26))) (.cells #[.string ⟨#[97]⟩, .string x.id, .string x.parent, .string x.north, .string x.south] 9)
    have hb0 := bnext hx1 hx2
    have HT := hide (tabB (he.next hb0))
    have hs2 : (w.alloc (.cells #[.int .i64 x.kind, .string x.id, .string x.parent, .string x.number, .string x.north, .string x.south, .bool x.gone] 26)).heap.size = w.heap.size + 1 := by simp
    rw [hs2] at HS
    clear kz ek hlf hs2 hx2
    go_wp2
    generalize (w.alloc (.cells #[.int .i64 x.kind, .string x.id, .string x.parent, .string x.number, .string x.north, .string x.south, .bool x.gone] 26)).alloc (.cells #[.string ⟨#[97]⟩, .string x.id, .string x.parent, .string x.north, .string x.south] 9) = w2 at *
    clear c0 c1 c2 c3 c4 c5 c6 hrow hx1
    go_loopw [4, 21] (fun v iv wr => ∃ k : Nat, k ≤ 5 ∧ iv = .int .i64 (k : Int) ∧ Below w2.heap.size w2 wr ∧ OwnB wr w2.heap.size v (Dg.joinedL ((leafS x).take k))) (fun _ iv _ => 5 - (intOf iv).toNat)
    case atStart => exact ⟨0, by omega, rfl, Below.refl _ _, World.ownsRow_nil _ _ _ 1⟩
    case round =>
      obtain ⟨k, hk, rfl, hb, hO⟩ := hrel
      have hz1 := hb.size
      by_cases hlt : k < 5
      · have hkl : k < (leafS x).length := hlt
        have hk5 : (k : Int) < 5 := by omega
        have hk0 : (0 : Int) ≤ (k : Int) := by omega
        obtain ⟨b, off, eA, hbl, hcell⟩ := (HS.out.below hb).get hkl
        cases eA
        have hsz := HZ.out (leafS x)[k] (List.getElem_mem hkl)
        have hst := hide (joinedL_step (leafS x) k hkl (by omega))
        have hle := Dg.joinedL_len_le ((leafS x).take k) 1048576 (fun s hs => HZ.out s (List.mem_of_mem_take hs))
        have hle2 : ((leafS x).take k).length ≤ 5 := by rw [List.length_take]; omega
        have hle3 : (Dg.joinedL ((leafS x).take k)).length ≤ 5 * (1048576 + 21) := Nat.le_trans hle (Nat.mul_le_mul_right _ hle2)
        clear hle hle2
        obtain ⟨y, hy⟩ : ∃ y, (leafS x)[k] = y := ⟨_, rfl⟩
        rw [hy] at hcell hsz hst
        rw [Nat.zero_add] at hcell
        have HT2 := hide (HT.out.on hb)
        have hd := decB_size y.size (by omega)
        clear hy
        go_wp2_with fail
        refine (appendInt_of w2.heap.size _ y.size (by omega) _ wr hO hz1 (by omega) HT2.out).mono ?_
        rintro e w3 ⟨v3, rfl, hO3, hb3⟩
        have hz3 := hb3.size
        clear hcell HT2 hO
        go_wp2_with (first
          | (at_builtin; refine step_byte w3 rfl (.tmp 28) (.tmp 29) rfl 58 _ rfl w2.heap.size _ _ rfl hO3 rfl ?_ ?_ ?_; rw [List.length_append, Dg.len_L]; omega; omega; intro v4 w4 hO4 hb4; have hz4 := hb4.size)
          | (at_builtin; refine step_str _ rfl (.tmp 31) (.tmp 32) rfl w2.heap.size _ _ rfl hO4 y rfl ?_ ?_ ?_; rw [List.length_append, List.length_append, Dg.len_L]; simp; omega; omega; intro v5 w5 hO5 hb5; have hz5 := hb5.size)
          | fail)
        rw [hst.out] at hO5
        have hb6 := ((hb.trans hb3).trans hb4).trans hb5
        go_roundw
        case rel => exact ⟨k + 1, by omega, by go_num, hb6, hO5⟩
        case measure => simp [intOf]; omega
      · obtain rfl : k = 5 := by omega
        have e5 : (leafS x).take 5 = leafS x := rfl
        rw [e5] at hO
        obtain ⟨A', c', rfl⟩ := hO.form
        have hcv := conv_own (P := Tryz.prog) 125 9 hO (by kernel_rfl) (by kernel_rfl)
        rw [show Dg.B (Dg.joinedL (leafS x)) = K from HK.out] at hcv
        go_wp2
        go_ret
        exact ⟨rfl, bnext hb0 hb⟩
end Go.Proofs.YtobhpeockinnjaaGreatDoor
/- Message of package proof and of the reference. No conditions but those that each theorem states. -/
namespace Go.Proofs.YtobhpeockinnjaaGreatDoor
open Go Go.RowKit Go.Sort Go.Maps
/-- The digits of a whole number. -/
def itoaB (n : Int) : ByteArray := Dg.B (Lib.itoa n)
theorem itoaZ_of (n : Int) (h0 : -9223372036854775808 ≤ n) (h1 : n ≤ 9223372036854775807) (R : ByteArray) (hR : itoaB n = R) (w : World) (he : Env w) :
    Calls Tryz.prog 53 #[.int .i64 n] w fun e w' => e = .returned (.string R) ∧ Below w.heap.size w w' := by
  subst hR
  refine (Tryz.strconv_Itoa n h0 h1 w he).mono ?_
  rintro e w' ⟨rfl, j, os, rfl⟩
  exact ⟨rfl, below_grown _ _ _⟩
theorem itoaB_size (n : Int) (h0 : -9223372036854775808 ≤ n) (h1 : n ≤ 9223372036854775807) : (itoaB n).size ≤ 21 := by
  unfold itoaB Lib.itoa
  rw [Dg.size_B]
  have key : ∀ m : Nat, m ≤ 9223372036854775808 → (Lib.decDigits m).length ≤ 20 := fun m hm => by
    rw [← decF_eq 20 m (by omega) (by omega)]
    exact Dg.dec_len m
  split
  · have := key n.natAbs (by omega)
    rw [List.length_cons]
    omega
  · have := key n.toNat (by omega)
    omega
/-- What an office signs about a day. -/
def rootW : ByteArray := ⟨#[114, 111, 111, 116]⟩
def msgS (day count : Int) (root : ByteArray) : List ByteArray := [rootW, itoaB day, itoaB count, root]
def msgB (day count : Int) (root : ByteArray) : ByteArray := Dg.listB (msgS day count root)
theorem msgB_size (day count : Int) (root : ByteArray) : (msgB day count root).size = 16 := listB_size _
theorem msgS_size {day count : Int} {root : ByteArray} (h0 : -9223372036854775808 ≤ day) (h1 : day ≤ 9223372036854775807) (k0 : -9223372036854775808 ≤ count) (k1 : count ≤ 9223372036854775807) {z : Nat} (hz : 21 ≤ z) (hr : root.size ≤ z) : ∀ s ∈ msgS day count root, s.size ≤ z := fun s hs => by
  unfold msgS at hs
  simp only [List.mem_cons, List.not_mem_nil, or_false] at hs
  rcases hs with rfl | rfl | rfl | rfl
  · exact Nat.le_trans (by decide : rootW.size ≤ 21) hz
  · exact Nat.le_trans (itoaB_size _ h0 h1) hz
  · exact Nat.le_trans (itoaB_size _ k0 k1) hz
  · exact hr
set_option maxRecDepth 100000 in
set_option maxHeartbeats 4000000 in
theorem pmsg_of (day count : Int) (root : ByteArray) (h0 : -9223372036854775808 ≤ day) (h1 : day ≤ 9223372036854775807) (k0 : -9223372036854775808 ≤ count) (k1 : count ≤ 9223372036854775807) (hr : root.size ≤ 1048576) (R : ByteArray) (hR : msgB day count root = R) (w : World) (he : Env w) :
    Calls Tryz.prog 19 #[.int .i64 day, .int .i64 count, .string root] w fun e w' => e = .returned (.string R) ∧ Below w.heap.size w w' := by
  have HE := hide he; have HR := hide hR
  clear he hR
  go_enter Tryz.func19, Tryz.ntmps19
  go_wp2_with fail
  obtain ⟨D, hD⟩ : ∃ D, itoaB day = D := ⟨_, rfl⟩
  refine (itoaZ_of day h0 h1 D hD w HE.out).mono ?_
  rintro e w2 ⟨rfl, hb2⟩
  go_wp2_with fail
  obtain ⟨C, hC⟩ : ∃ C, itoaB count = C := ⟨_, rfl⟩
  refine (itoaZ_of count k0 k1 C hC w2 (HE.out.next hb2)).mono ?_
  rintro e w3 ⟨rfl, hb3⟩
  have hb := bnext hb2 hb3
  have hms := msgS_size (root := root) h0 h1 k0 k1 (z := 1073741824) (by decide) (by omega)
  have HJ := hide (list_new (msgS day count root) #[.string ⟨#[114, 111, 111, 116]⟩, .string D, .string C, .string root] 9 4 4 rfl (by show 4 ≤ 8; decide) hms R HR.out w3 (HE.out.next hb) (by unfold msgS rootW; rw [hD, hC]; rfl) w3.heap.size rfl)
  clear hb2 hb3 hms hD hC
  go_wp2_with fail
  refine HJ.out.mono ?_
  rintro e w4 ⟨rfl, hb4⟩
  have hb5 := bnext hb hb4
  clear hb4 hb HJ
  go_wp2
  go_ret
  exact ⟨rfl, hb5⟩
theorem digit_at (d : Nat) (hd : d < 10) : (⟨#[48, 49, 50, 51, 52, 53, 54, 55, 56, 57]⟩ : ByteArray).extract d (d + 1) = ⟨#[UInt8.ofNat (48 + d)]⟩ := by
  match d, hd with
  | 0, _ => rfl
  | 1, _ => rfl
  | 2, _ => rfl
  | 3, _ => rfl
  | 4, _ => rfl
  | 5, _ => rfl
  | 6, _ => rfl
  | 7, _ => rfl
  | 8, _ => rfl
  | 9, _ => rfl
theorem itoa_neg_one (m : Nat) (h0 : 0 < m) (h : m < 10) : itoaB (-(m : Int)) = ⟨#[45]⟩ ++ ⟨#[UInt8.ofNat (48 + m)]⟩ := by
  unfold itoaB Lib.itoa
  rw [if_pos (by omega), Int.natAbs_neg, Int.natAbs_natCast, Lib.decDigits, dif_pos h]
  rfl
theorem itoa_neg_more (m : Nat) (h : 10 ≤ m) : itoaB (-(m : Int)) = itoaB (-((m / 10 : Nat) : Int)) ++ ⟨#[UInt8.ofNat (48 + m % 10)]⟩ := by
  unfold itoaB Lib.itoa
  rw [if_pos (by omega), if_pos (by omega), Int.natAbs_neg, Int.natAbs_natCast, Int.natAbs_neg, Int.natAbs_natCast, Lib.decDigits, dif_neg (by omega)]
  apply Dg.L_inj
  rw [Dg.L_B, L_app, Dg.L_B]
  rfl
set_option maxRecDepth 100000 in
set_option maxHeartbeats 4000000 in
theorem rdecZ_neg (m : Nat) : ∀ (n : Int) (w : World) (R : ByteArray), n = -(m : Int) → 0 < m → m ≤ 9223372036854775808 → itoaB n = R →
    Calls Tryz.prog 55 #[.int .i64 n] w fun e w' => e = .returned (.string R) ∧ w' = w := by
  induction m using Nat.strongRecOn with
  | _ m ih =>
  intro n w R hn h0 hm hR
  obtain ⟨d, hd⟩ : ∃ d, m % 10 = d := ⟨_, rfl⟩
  obtain ⟨q, hq⟩ : ∃ q, m / 10 = q := ⟨_, rfl⟩
  have hd10 : d < 10 := by omega
  have hmq : m = 10 * q + d := by omega
  have ht : n.tmod 10 = -(d : Int) := by rw [hn, Int.neg_tmod, ← hd]; rfl
  have hv : n.tdiv 10 = -(q : Int) := by rw [hn, Int.neg_tdiv, ← hq]; rfl
  have hlt : ¬ (0 : Int) ≤ n := by omega
  have hw1 : IntKind.i64.wrap (d : Int) = (d : Int) := IntWalk.i64_in _ (by omega)
  have hw2 : IntKind.i64.wrap (1 + (d : Int)) = ((d + 1 : Nat) : Int) := by rw [IntWalk.i64_in _ (by omega)]; omega
  have hw3 : IntKind.i64.wrap (-(q : Int)) = -(q : Int) := IntWalk.i64_in _ (by omega)
  have hx := digit_at d hd10
  have hs1 : (1 : Int) + (d : Int) = ((d + 1 : Nat) : Int) := by omega
  have HN := hide hn; have HR := hide hR; have HQ := hide hq; have HD := hide hd; have IH := hide ih; have HX := hide hx
  clear hn hR hq hd ih hx
  have hd0 : (0 : Int) ≤ (d : Int) := by omega
  have hd9 : (d : Int) ≤ 10 := by omega
  have hd8 : ((d + 1 : Nat) : Int) ≤ 10 := by omega
  go_enter Tryz.func55, Tryz.ntmps55
  go_upto_region 4 with (fail)
  obtain ⟨s, hs⟩ : ∃ s, (⟨#[48, 49, 50, 51, 52, 53, 54, 55, 56, 57]⟩ : ByteArray).extract d (d + 1) = s := ⟨_, rfl⟩
  have hsx : s = ⟨#[UInt8.ofNat (48 + d)]⟩ := by rw [← hs]; exact HX.out
  rw [hs]
  have hsz : s.size ≤ 1 := by rw [hsx]; exact Nat.le_refl _
  have HS := hide hsx
  clear hs hsx ht hw1 hw2 hw3 hs1
  by_cases hq0 : q = 0
  · have hv0 : n.tdiv 10 = 0 := by rw [hv, hq0]; rfl
    have E9 := hide (show (⟨#[45]⟩ : ByteArray) ++ s = R by
      rw [← HR.out, HN.out, HS.out, itoa_neg_one m h0 (by omega)]
      rw [show m = d by omega])
    clear hv hq0
    go_wp2
    go_ret
    exact ⟨ret_str E9.out, rfl⟩
  · have hq1 : (-(q : Int) == 0) = false := beq_eq_false_iff_ne.2 (by omega)
    have hw3 : IntKind.i64.wrap (-(q : Int)) = -(q : Int) := IntWalk.i64_in _ (by omega)
    have hqi : ¬ (q : Int) = 0 := by omega
    obtain ⟨T, hT⟩ : ∃ T, itoaB (-(q : Int)) = T := ⟨_, rfl⟩
    have hTz : T.size ≤ 21 := by rw [← hT]; exact itoaB_size _ (by omega) (by omega)
    have HC := hide (IH.out q (by omega) (-(q : Int)) w T rfl (by omega) (by omega) hT)
    have E9 := hide (show T ++ s = R by
      rw [← HR.out, HN.out, HS.out, itoa_neg_more m (by omega), HQ.out, hT, HD.out])
    clear hT
    go_wp2_with fail
    refine HC.out.mono ?_
    rintro e w2 ⟨rfl, rfl⟩
    clear HC
    go_wp2
    go_ret
    exact ⟨ret_str E9.out, rfl⟩
theorem rdecZ_of (n : Int) (h0 : -9223372036854775808 ≤ n) (h1 : n ≤ 9223372036854775807) (R : ByteArray) (hR : itoaB n = R) (w : World) :
    Calls Tryz.prog 55 #[.int .i64 n] w fun e w' => e = .returned (.string R) ∧ w' = w := by
  by_cases hn : n < 0
  · exact rdecZ_neg n.natAbs n w R (by omega) (by omega) (by omega) hR
  · obtain ⟨k, rfl⟩ := Int.eq_ofNat_of_zero_le (show 0 ≤ n by omega)
    have hR' : decB k = R := by
      rw [← hR]
      unfold itoaB decB Lib.itoa
      rw [if_neg (by omega), Int.toNat_natCast]
    have hk : (0 : Int) ≤ (k : Int) := by omega
    have HR := hide hR'
    clear hR hR' hn
    go_enter Tryz.func55, Tryz.ntmps55
    go_wp2_with fail
    refine (decimal_any k (by omega) w).mono ?_
    rintro e w2 ⟨rfl, rfl⟩
    go_wp2
    go_ret
    exact ⟨ret_str HR.out, rfl⟩
set_option maxRecDepth 100000 in
set_option maxHeartbeats 4000000 in
theorem rmsg_of (day count : Int) (root : ByteArray) (h0 : -9223372036854775808 ≤ day) (h1 : day ≤ 9223372036854775807) (k0 : -9223372036854775808 ≤ count) (k1 : count ≤ 9223372036854775807) (hr : root.size ≤ 1048576) (R : ByteArray) (hR : msgB day count root = R) (w : World) :
    Calls Tryz.prog 20 #[.int .i64 day, .int .i64 count, .string root] w fun e w' => e = .returned (.string R) ∧ Below w.heap.size w w' := by
  have HR := hide hR
  clear hR
  go_enter Tryz.func20, Tryz.ntmps20
  go_wp2_with fail
  obtain ⟨D, hD⟩ : ∃ D, itoaB day = D := ⟨_, rfl⟩
  refine (rdecZ_of day h0 h1 D hD w).mono ?_
  rintro e w2 ⟨rfl, rfl⟩
  go_wp2_with fail
  obtain ⟨C, hC⟩ : ∃ C, itoaB count = C := ⟨_, rfl⟩
  refine (rdecZ_of count k0 k1 C hC w2).mono ?_
  rintro e w3 ⟨rfl, rfl⟩
  have hms := msgS_size (root := root) h0 h1 k0 k1 (z := 1048576) (by decide) hr
  have HJ := hide (rlist_new (msgS day count root) #[.string ⟨#[114, 111, 111, 116]⟩, .string D, .string C, .string root] 9 4 4 rfl (by show 4 ≤ 8; decide) hms R HR.out w3 (by unfold msgS rootW; rw [hD, hC]; rfl) w3.heap.size rfl)
  clear hms hD hC
  go_wp2_with fail
  refine HJ.out.mono ?_
  rintro e w4 ⟨rfl, hb4⟩
  clear HJ
  go_wp2
  go_ret
  exact ⟨rfl, hb4⟩
end Go.Proofs.YtobhpeockinnjaaGreatDoor
/- Proofs in memory. No conditions but those that each theorem states. -/
namespace Go.Proofs.YtobhpeockinnjaaGreatDoor
open Go Go.RowKit Go.Sort Go.Maps
/-- A proof. -/
structure Pf where
  count : Int
  idx : Int
  it : Dg.It
  path : List ByteArray
theorem jCells10 {w : World} {g : Nat} {a0 a1 a2 a3 a4 a5 a6 a7 a8 a9 : Value} {T : TypeId} (h : w.heap[g]? = some (.cells #[a0, a1, a2, a3, a4, a5, a6, a7, a8, a9] T (0, 0))) :
    w.cell? ⟨g, 0, none⟩ = some a0 ∧ w.cell? ⟨g, 1, none⟩ = some a1 ∧ w.cell? ⟨g, 2, none⟩ = some a2 ∧ w.cell? ⟨g, 3, none⟩ = some a3 ∧ w.cell? ⟨g, 4, none⟩ = some a4 ∧ w.cell? ⟨g, 5, none⟩ = some a5 ∧ w.cell? ⟨g, 6, none⟩ = some a6 ∧ w.cell? ⟨g, 7, none⟩ = some a7 ∧ w.cell? ⟨g, 8, none⟩ = some a8 ∧ w.cell? ⟨g, 9, none⟩ = some a9 := by
  refine ⟨?_, ?_, ?_, ?_, ?_, ?_, ?_, ?_, ?_, ?_⟩ <;> (rw [cell_of_row _ _ _ _ _ (0, 0) h]; rfl)
theorem cProof : Tryz.prog.cellsOf 29 = 10 := by kernel_rfl
/-- A proof in its variable, its item in another one, its path. -/
structure PS (b1 b2 : Nat) (p : Pf) (A : Option Addr) (m c : Nat) (X : World) : Prop where
  r1 : X.heap[b1]? = some (.cells #[.int .i64 p.count, .int .i64 p.idx, .int .i64 p.it.kind, .string p.it.id, .string p.it.parent, .string p.it.number, .string p.it.north, .string p.it.south, .bool p.it.gone, .slice A m c] 29 (0, 0))
  r2 : X.heap[b2]? = some (.cells #[.int .i64 p.it.kind, .string p.it.id, .string p.it.parent, .string p.it.number, .string p.it.north, .string p.it.south, .bool p.it.gone] 26 (0, 0))
  path : Strs X X.heap.size A p.path
theorem PS.below {b1 b2 : Nat} {p : Pf} {A : Option Addr} {m c : Nat} {X X' : World} (h : PS b1 b2 p A m c X) (hb : Below X.heap.size X X') : PS b1 b2 p A m c X' := ⟨iNext h.r1 hb, iNext h.r2 hb, keepS h.path hb⟩
/-- Whether a proof holds. -/
def kindOk (x : Dg.It) : Bool := (x.kind == 2) || (x.kind == 1)
def checkP (root : ByteArray) (p : Pf) : Bool := kindOk p.it && (decide (p.it.number = Dg.nil8) && (!p.it.gone && checkB root p.count p.idx (Dg.leafI p.it) p.path))
theorem checkP_kind {root : ByteArray} {p : Pf} (h : kindOk p.it = false) : checkP root p = false := by unfold checkP; rw [h, Bool.false_and]
theorem checkP_num {root : ByteArray} {p : Pf} (h : decide (p.it.number = Dg.nil8) = false) : checkP root p = false := by unfold checkP; rw [h, Bool.false_and, Bool.and_false]
theorem checkP_gone {root : ByteArray} {p : Pf} (h : p.it.gone = true) : checkP root p = false := by unfold checkP; rw [h, Bool.not_true, Bool.false_and, Bool.and_false, Bool.and_false]
theorem checkP_rest {root : ByteArray} {p : Pf} (h1 : kindOk p.it = true) (h2 : decide (p.it.number = Dg.nil8) = true) (h3 : p.it.gone = false) : checkP root p = checkB root p.count p.idx (Dg.leafI p.it) p.path := by unfold checkP; rw [h1, h2, h3]; rfl
theorem pleaf_g (x : Dg.It) (g : Bool) (hz : ∀ s ∈ leafS x, s.size ≤ 1048576) (w : World) (he : Env w) (K : ByteArray) (hK : Dg.leafI x = K) :
    Calls Tryz.prog 50 #[.agg #[.int .i64 x.kind, .string x.id, .string x.parent, .string x.number, .string x.north, .string x.south, .bool g]] w fun e w' => e = .returned (.string K) ∧ Below w.heap.size w w' :=
  pleaf_of ⟨x.kind, x.id, x.parent, x.number, x.north, x.south, g⟩ hz w he K hK
theorem rleaf_g (x : Dg.It) (g : Bool) (hz : ∀ s ∈ leafS x, s.size ≤ 1048576) (w : World) (K : ByteArray) (hK : Dg.leafI x = K) :
    Calls Tryz.prog 37 #[.agg #[.int .i64 x.kind, .string x.id, .string x.parent, .string x.number, .string x.north, .string x.south, .bool g]] w fun e w' => e = .returned (.string K) ∧ Below w.heap.size w w' :=
  rleaf_of ⟨x.kind, x.id, x.parent, x.number, x.north, x.south, g⟩ hz w K hK
theorem leafI_size {x : Dg.It} (h : ∀ s ∈ leafS x, s.size ≤ 1048576) : (Dg.leafI x).size ≤ 5242985 := by
  rw [leafI_eq]
  unfold Dg.jB
  rw [Dg.size_B]
  exact Nat.le_trans (Dg.joinedL_len_le _ 1048576 h) (by show 5 * (1048576 + 21) ≤ _; decide)
theorem leafI_size2 {x : Dg.It} (h : ∀ s ∈ leafS x, s.size ≤ 10000) : (Dg.leafI x).size ≤ 1048576 := by
  rw [leafI_eq]
  unfold Dg.jB
  rw [Dg.size_B]
  exact Nat.le_trans (Dg.joinedL_len_le _ 10000 h) (by show 5 * (10000 + 21) ≤ _; decide)
end Go.Proofs.YtobhpeockinnjaaGreatDoor
/- Readers in memory. No conditions but those that each theorem states. -/
namespace Go.Proofs.YtobhpeockinnjaaGreatDoor
open Go Go.RowKit Go.Sort Go.Maps
/-- A day, a count, a root. -/
abbrev Dy := Int × Int × ByteArray
noncomputable def rLe : Value → Option (DataW Unit × List MemPlace)
  | .agg ⟨[.int .i64 a, .string s]⟩ => some (.agg [.lit (.int .i64 a), .lit (.string s.data.toList)], [])
  | _ => none
noncomputable def daysD : List Dy → DataW Unit
  | [] => .map []
  | (d, c, r) :: l => (daysD l).put (.int .i64 d) (.agg [.lit (.int .i64 c), .lit (.string r.data.toList)])
def foundD : List Dy → Int → Option (Int × ByteArray)
  | [], _ => none
  | (d, c, r) :: l, k => if d = k then some (c, r) else foundD l k
theorem daysD_isMap : ∀ l, IsMap (daysD l)
  | [] => isMap_empty
  | (_, _, _) :: l => (daysD_isMap l).put _ _
theorem daysD_has (k : Int) : ∀ l, Maps.has (daysD l) (.int .i64 k) = (foundD l k).isSome
  | [] => rfl
  | (d, c, r) :: l => by
    by_cases h : d = k
    · subst h
      rw [daysD, Maps.has_put_same (daysD_isMap l) (by trivial), foundD, if_pos rfl]; rfl
    · rw [daysD, Maps.has_put_other (fun e => h (by injection e with _ e; exact e.symm)), daysD_has k l, foundD, if_neg h]
theorem daysD_at (k : Int) (zd : DataW Unit) : ∀ l, (daysD l).atKey (.int .i64 k) zd = match foundD l k with | some (c, r) => .agg [.lit (.int .i64 c), .lit (.string r.data.toList)] | none => zd
  | [] => rfl
  | (d, c, r) :: l => by
    by_cases h : d = k
    · subst h
      rw [daysD, atKey_put_same (daysD_isMap l) (by trivial), foundD, if_pos rfl]
    · rw [daysD, atKey_put_other (fun e => h (by injection e with _ e; exact e.symm)), daysD_at k zd l, foundD, if_neg h]
theorem rLe_inv {v : Value} {c : Int} {r : ByteArray} {ps : List MemPlace} (h : rLe v = some (.agg [.lit (.int .i64 c), .lit (.string r.data.toList)], ps)) : v = .agg #[.int .i64 c, .string r] := by
  unfold rLe at h
  split at h
  · rename_i a s
    injection h with h
    injection h with h _
    injection h with h
    injection h with h1 h2
    injection h1 with h1
    injection h1 with _ h1
    injection h2 with h2 _
    injection h2 with h2
    injection h2 with h2
    subst h1
    obtain ⟨⟨d⟩⟩ := s
    obtain ⟨⟨d'⟩⟩ := r
    cases h2
    rfl
  · cases h
theorem lawIntP : Keyed Tryz.prog 3 := int_keyed Tryz.underlying3
theorem key_intP (m : Int) (m0 : -9223372036854775808 ≤ m) (m1 : m ≤ 9223372036854775807) : keyOf Tryz.prog 3 (.int .i64 m) = some (.int .i64 m) :=
  keyOf_int_mk Tryz.underlying3 (WalkArith.wf_i64 ⟨m0, m1⟩)
set_option maxRecDepth 100000 in
theorem days_look {W : World} {mb N : Nat} {l : List Dy} (h : W.ownsMap Tryz.prog 3 rLe mb N (daysD l)) (d : Int) (m0 : -9223372036854775808 ≤ d) (m1 : d ≤ 9223372036854775807) :
    (∀ c r, foundD l d = some (c, r) → (Instr.lookup 86 (.map (some mb)) (.int .i64 d) true).run Tryz.prog W = .ok (.tuple #[.agg #[.int .i64 c, .string r], .bool true]) W) ∧
    (foundD l d = none → (Instr.lookup 86 (.map (some mb)) (.int .i64 d) true).run Tryz.prog W = .ok (.tuple #[.agg #[.int .i64 0, .string ⟨#[]⟩], .bool false]) W) := by
  obtain ⟨v, ps, hrun, hv⟩ := h.look_ok lawIntP Tryz.underlying86 (z := .agg #[.int .i64 0, .string ⟨#[]⟩]) (by kernel_rfl) (zd := .agg [.lit (.int .i64 0), .lit (.string (⟨#[]⟩ : ByteArray).data.toList)]) (zp := []) rfl (key_intP d m0 m1)
  rw [daysD_has] at hrun
  rw [daysD_at] at hv
  constructor
  · intro c r hf
    rw [hf] at hrun hv
    rw [rLe_inv hv] at hrun
    exact hrun
  · intro hf
    rw [hf] at hrun hv
    rw [rLe_inv hv] at hrun
    exact hrun
theorem rLe_mk (c : Int) (r : ByteArray) : rLe (.agg #[.int .i64 c, .string r]) = some (.agg [.lit (.int .i64 c), .lit (.string r.data.toList)], []) := rfl
/-- A reader. -/
structure Rd (br mb : Nat) (key : ByteArray) (l : List Dy) (X : World) : Prop where
  row : X.heap[br]? = some (.cells #[.string key, .map (some mb)] 88 (0, 0))
  map : X.ownsMap Tryz.prog 3 rLe mb l.length (daysD l)
  ne : br ≠ mb
theorem Rd.below {br mb : Nat} {key : ByteArray} {l : List Dy} {X X' : World} (h : Rd br mb key l X) (hb : Below X.heap.size X X') : Rd br mb key l X' := ⟨iNext h.row hb, ownsMap_off (S := []) h.map (Off.of_below hb) (by simp), h.ne⟩
theorem Rd.far {br mb : Nat} {key : ByteArray} {l : List Dy} {S : List Nat} {X X' : World} (h : Rd br mb key l X) (ho : Off S X X') (h1 : br ∉ S) (h2 : mb ∉ S) : Rd br mb key l X' := ⟨ho.row h.row h1, ownsMap_off h.map ho h2, h.ne⟩
theorem learnt_run (w : World) (a b : Int) (s t : ByteArray) : (binOp .neq 94 (.agg #[.int .i64 a, .string s]) (.agg #[.int .i64 b, .string t])).run Tryz.prog w = .ok (.bool (!((a == b) && (s.toList == t.toList)))) w := by
  have hS : Tryz.prog.underlying 94 = some (.struct (Tryz.prog.fieldsOf 94)) := by kernel_rfl
  have hp : Tryz.prog.stoodInHeld 94 = false := by kernel_rfl
  rw [run_neq_struct, show (10000 : Nat) = 9999 + 1 from rfl, run_equalIn_agg w 9999 94 _ _ hS hp]
  simp only [Program.fieldsOf, Tryz.underlying94]
  have u3 := Tryz.underlying3
  have u5 := Tryz.underlying9
  have a3 := Tryz.isAgg3
  have a5 := Tryz.isAgg9
  have z3 := Tryz.sizeOf3
  have z5 := Tryz.sizeOf9
  go_simp
  by_cases h1 : a = b <;> by_cases h2 : s.toList = t.toList <;> simp [h1, h2]
def learnBad (d c : Int) (root : ByteArray) : Prop := d < 0 ∨ 1000000 < d ∨ c < 0 ∨ 2000 < c ∨ Dg.isB root = false
instance (d c : Int) (root : ByteArray) : Decidable (learnBad d c root) := by unfold learnBad; infer_instance
def learnE (l : List Dy) (V : Bool) (d c : Int) (root : ByteArray) : Int × List Dy :=
  if learnBad d c root then (1, l)
  else if V = false then (19, l)
  else match foundD l d with
    | some (c0, r0) => if c0 = c ∧ r0 = root then (0, (d, c, root) :: l) else (23, l)
    | none => (0, (d, c, root) :: l)
end Go.Proofs.YtobhpeockinnjaaGreatDoor
/- Seals in plain Lean: digits, chains, keys, what Sign and Verify compute. No program in sight. -/
namespace Go.Proofs.YtobhpeockinnjaaGreatDoor.Dg
/-! The digits of a message. -/
def dgt (m : ByteArray) (j : Nat) : Nat := state (L m) / 16 ^ (15 - j) % 16
theorem dgt_lt (m : ByteArray) (j : Nat) : dgt m j < 16 := Nat.mod_lt _ (by decide)
def restTo (m : ByteArray) : Nat → Nat
  | 0 => 0
  | j + 1 => restTo m j + (15 - dgt m j)
theorem restTo_le (m : ByteArray) (j : Nat) : restTo m j ≤ 15 * j := by
  induction j with
  | zero => exact Nat.le_refl _
  | succ j ih => rw [restTo]; omega
def dig (m : ByteArray) (k : Nat) : Nat := if k < 16 then dgt m k else if k = 16 then restTo m 16 / 16 else restTo m 16 % 16
theorem dig_le (m : ByteArray) (k : Nat) : dig m k ≤ 15 := by
  unfold dig
  have h1 := dgt_lt m k
  have h2 := restTo_le m 16
  split
  · omega
  · split <;> omega
theorem dig_lo (m : ByteArray) (k : Nat) (h : k < 16) : dig m k = dgt m k := if_pos h
theorem dig_16 (m : ByteArray) : dig m 16 = restTo m 16 / 16 := rfl
theorem dig_17 (m : ByteArray) : dig m 17 = restTo m 16 % 16 := rfl
/-! Chains, keys, seals. -/
def decS (n : Nat) : ByteArray := B (dec n)
def startT (secret : ByteArray) (i k : Nat) : ByteArray := jB [secret, decS i, decS k]
def startB (secret : ByteArray) (i k : Nat) : ByteArray := listB [secret, decS i, decS k]
/-- Link j of chain k of the one-time key i of a secret. -/
def ch (secret : ByteArray) (i k j : Nat) : ByteArray := chainB (startB secret i k) j
theorem ch_zero (secret : ByteArray) (i k : Nat) : ch secret i k 0 = startB secret i k := chainB_zero _
theorem ch_succ (secret : ByteArray) (i k j : Nat) : ch secret i k (j + 1) = sumB (ch secret i k j) := chainB_succ _ _
theorem ch_add (secret : ByteArray) (i k a b : Nat) : chainB (ch secret i k a) b = ch secret i k (a + b) := chainB_add _ _ _
theorem isB_ch (secret : ByteArray) (i k j : Nat) : isB (ch secret i k j) = true := by
  cases j with
  | zero => rw [ch_zero]; exact isB_listB _
  | succ j => rw [ch_succ]; exact isB_sumB _
def endsOf (secret : ByteArray) (i : Nat) : List ByteArray := (List.range 18).map fun k => ch secret i k 15
def keyB (secret : ByteArray) (i : Nat) : ByteArray := listB (endsOf secret i)
def keysB (secret : ByteArray) (h : Nat) : List ByteArray := (List.range (2 ^ h)).map (keyB secret)
def publicB (secret : ByteArray) (h : Nat) : ByteArray := root (keysB secret h)
def sigB (secret : ByteArray) (i : Nat) (m : ByteArray) : List ByteArray := (List.range 18).map fun k => ch secret i k (dig m k)
def sealPath (secret : ByteArray) (h i : Nat) : List ByteArray := path (keysB secret h) i
/-- The ends of the chains that a seal's digests come to. -/
def endsB (m : ByteArray) (sig : List ByteArray) : List ByteArray := (List.range 18).map fun k => chainB (sig.getD k ⟨#[]⟩) (15 - dig m k)
theorem keysB_len (secret : ByteArray) (h : Nat) : (keysB secret h).length = 2 ^ h := by rw [keysB, List.length_map, List.length_range]
theorem sigB_len (secret : ByteArray) (i : Nat) (m : ByteArray) : (sigB secret i m).length = 18 := by rw [sigB, List.length_map, List.length_range]
theorem endsB_len (m : ByteArray) (sig : List ByteArray) : (endsB m sig).length = 18 := by rw [endsB, List.length_map, List.length_range]
theorem keysB_get (secret : ByteArray) (h i : Nat) (hi : i < (keysB secret h).length) : (keysB secret h)[i] = keyB secret i := by
  have h1 : (keysB secret h)[i]? = some (keyB secret i) := by
    rw [keysB_len] at hi
    unfold keysB
    rw [List.getElem?_map, List.getElem?_range hi]; rfl
  exact Option.some.inj ((List.getElem?_eq_getElem hi).symm.trans h1)
theorem sigB_getD (secret : ByteArray) (i : Nat) (m : ByteArray) (k : Nat) (hk : k < 18) : (sigB secret i m).getD k ⟨#[]⟩ = ch secret i k (dig m k) := by
  rw [sigB, List.getD_eq_getElem?_getD, List.getElem?_map, List.getElem?_range hk]; rfl
/-- With the whole of the chains, a seal comes to the ends of its key. -/
theorem endsB_sig (secret : ByteArray) (i : Nat) (m : ByteArray) : endsB m (sigB secret i m) = endsOf secret i := by
  unfold endsB endsOf
  apply List.map_congr_left
  intro k hk
  have hk := List.mem_range.1 hk
  have h := dig_le m k
  rw [sigB_getD _ _ _ _ hk, ch_add]
  congr 1
  omega
theorem ch_size (secret : ByteArray) (i k j : Nat) : (ch secret i k j).size = 16 := isB_len (isB_ch _ _ _ _)
theorem keyB_size (secret : ByteArray) (i : Nat) : (keyB secret i).size = 16 := listB_size _
theorem keysB_size (secret : ByteArray) (h : Nat) : ∀ s ∈ keysB secret h, s.size = 16 := fun s hs => by
  unfold keysB at hs
  obtain ⟨i, _, rfl⟩ := List.mem_map.1 hs
  exact keyB_size _ _
theorem endsOf_size (secret : ByteArray) (i : Nat) : ∀ s ∈ endsOf secret i, s.size = 16 := fun s hs => by
  unfold endsOf at hs
  obtain ⟨k, _, rfl⟩ := List.mem_map.1 hs
  exact ch_size _ _ _ _
theorem sigB_isB (secret : ByteArray) (i : Nat) (m : ByteArray) : ∀ s ∈ sigB secret i m, isB s = true := fun s hs => by
  unfold sigB at hs
  obtain ⟨k, _, rfl⟩ := List.mem_map.1 hs
  exact isB_ch _ _ _ _
/-! What is digested. -/
def chained (s : ByteArray) (n : Nat) : List ByteArray := (List.range (n + 1)).map (chainB s)
theorem decS_size (n : Nat) : (decS n).size ≤ 20 := by rw [decS, size_B]; exact dec_len n
end Go.Proofs.YtobhpeockinnjaaGreatDoor.Dg
/- The laws of seals in plain Lean: a seal that is accepted is the one of its key, or two texts with one digest are shown. No program in sight. -/
namespace Go.Proofs.YtobhpeockinnjaaGreatDoor.Dg
/-! Trees of 2^n elements. -/
theorem half_two_pow (n : Nat) : half (2 ^ (n + 1)) = 2 ^ n := by
  obtain ⟨e, he⟩ := half_pow (2 ^ (n + 1))
  have h1 := half_lt (2 ^ (n + 1)) (by rw [Nat.pow_succ]; have := Nat.one_le_two_pow (n := n); omega)
  have h2 := half_two (2 ^ (n + 1))
  rw [he] at h1 h2 ⊢
  have e1 : e ≤ n := by
    rcases Nat.lt_or_ge n e with h | h
    · have : 2 ^ (n + 1) ≤ 2 ^ e := Nat.pow_le_pow_right (by omega) h
      omega
    · exact h
  have e2 : n ≤ e := by
    rcases Nat.lt_or_ge e n with h | h
    · have : 2 ^ (e + 1) ≤ 2 ^ n := Nat.pow_le_pow_right (by omega) h
      have h3 : 2 ^ (e + 1) = 2 * 2 ^ e := by rw [Nat.pow_succ]; omega
      have h4 : 2 ^ (n + 1) = 2 * 2 ^ n := by rw [Nat.pow_succ]; omega
      have := Nat.one_le_two_pow (n := n)
      omega
    · exact h
  rw [Nat.le_antisymm e1 e2]
theorem pow_ge2 (n : Nat) : 2 ≤ 2 ^ (n + 1) := by rw [Nat.pow_succ]; have := Nat.one_le_two_pow (n := n); omega
/-! The texts that are digested for a public key. -/
def madeKey (secret : ByteArray) (n i : Nat) : List ByteArray := ((List.range 18).flatMap fun k => startT secret i k :: chained (startB secret i k) n) ++ [jB (endsOf secret i), jB [sLeaf, keyB secret i]]
def pairT : List ByteArray → List ByteArray
  | a :: b :: r => jB [sNode, a, b] :: pairT r
  | _ => []
def pairD : List ByteArray → List ByteArray
  | a :: b :: r => nodeB a b :: pairD r
  | _ => []
def lvF : Nat → List ByteArray → List ByteArray
  | 0, _ => []
  | f + 1, l => if l.length ≤ 1 then [] else pairT l ++ lvF f (pairD l)
def leaves (secret : ByteArray) (h : Nat) : List ByteArray := (keysB secret h).map leafB
def made (secret : ByteArray) (h n : Nat) : List ByteArray := ((List.range (2 ^ h)).flatMap (madeKey secret n)) ++ lvF (2 ^ h) (leaves secret h)
/-! The texts that are digested when a seal is verified. -/
def foldT : Nat → ByteArray → List ByteArray → List ByteArray
  | _, _, [] => []
  | i, d, s :: r => (if i % 2 = 1 then jB [sNode, s, d] else jB [sNode, d, s]) :: foldT (i / 2) (if i % 2 = 1 then nodeB s d else nodeB d s) r
def checked (m : ByteArray) (i : Nat) (sig path : List ByteArray) : List ByteArray :=
  (((List.range 18).flatMap fun k => chained (sig.getD k ⟨#[]⟩) (15 - dig m k)) ++ [jB (endsB m sig), jB [sLeaf, listB (endsB m sig)]]) ++ foldT i (leafB (listB (endsB m sig))) path
/-! P3.3 to P3.5. -/
theorem endsB_size (m : ByteArray) (sig : List ByteArray) (hs : ∀ s ∈ sig, s.size = 16) : ∀ s ∈ endsB m sig, s.size ≤ Z := fun s h => by
  unfold endsB at h
  obtain ⟨k, _, rfl⟩ := List.mem_map.1 h
  have hg : (sig.getD k ⟨#[]⟩).size ≤ 16 := by
    rw [List.getD_eq_getElem?_getD]
    cases hq : sig[k]? with
    | none => exact Nat.zero_le _
    | some x => exact Nat.le_of_eq (hs x (List.mem_of_getElem? hq))
  have := chainB_le (sig.getD k ⟨#[]⟩) (15 - dig m k)
  unfold Z
  omega
theorem length_pow (h : Nat) : ∀ i, i < 2 ^ h → length (2 ^ h) i = h := by
  induction h with
  | zero => intro i _; exact length_one _ _ (Nat.le_refl _)
  | succ h ih =>
    intro i hi
    have h2 := half_two_pow h
    have h3 := pow_ge2 h
    by_cases hlt : i < half (2 ^ (h + 1))
    · rw [length_fst _ _ h3 hlt, h2, ih i (by rw [h2] at hlt; exact hlt)]; omega
    · have h4 : 2 ^ (h + 1) - half (2 ^ (h + 1)) = 2 ^ h := by rw [h2, Nat.pow_succ]; omega
      rw [length_snd _ _ h3 hlt, h4, ih _ (by rw [h2] at hlt ⊢; rw [Nat.pow_succ] at hi; omega)]; omega
theorem sealPath_len (s : ByteArray) (h i : Nat) (hi : i < 2 ^ h) : (sealPath s h i).length = h := by
  unfold sealPath
  rw [path_len _ _ _ (keysB_len s h) hi, length_pow h i hi]
theorem sealPath_isB (s : ByteArray) (h i : Nat) : ∀ x ∈ sealPath s h i, isB x = true := fun x hx => (path_sizes _ _ _ rfl x hx).1
end Go.Proofs.YtobhpeockinnjaaGreatDoor.Dg
/- of, start, key, keys, Public of package seal. -/
namespace Go.Proofs.YtobhpeockinnjaaGreatDoor
open Go Go.RowKit Go.Sort
theorem of_of (A : Option Addr) (c k : Nat) (l : List ByteArray) (hk : l.length = k) (r : ByteArray) (hr : Dg.listB l = r) (w : World) (he : Env w) (hl : l.length ≤ 1099511627776) (hj : (Dg.joinedL l).length ≤ 1099511627776) (hs : ∀ s ∈ l, s.size ≤ 1099511627776) (hS : Strs w w.heap.size A l) :
    Calls Tryz.prog 80 #[.slice A k c] w fun e w' => e = .returned (.string r) ∧ Below w.heap.size w w' := by
  go_enter Tryz.func80, Tryz.ntmps80
  go_wp2_with fail
  refine (list_of A 0 c k l hk r hr w he hl hj hs hS).mono ?_
  rintro e w1 ⟨rfl, hb⟩
  clear hr
  go_wp2
  go_ret
  exact ⟨rfl, hb⟩
theorem of_new (l : List ByteArray) (cs : Array Value) (T : TypeId) (k c : Nat) (hk : l.length = k) (h8 : l.length ≤ 8) (h : ∀ s ∈ l, s.size ≤ 1073741824) (r : ByteArray) (hr : Dg.listB l = r) (w : World) (he : Env w) (hcs : cs.toList = l.map .string) (n : Nat) (hn : w.heap.size = n) :
    Calls Tryz.prog 80 #[.slice (some ⟨n, 0, none⟩) k c] (w.alloc (.cells cs T)) fun e w' => e = .returned (.string r) ∧ Below w.heap.size w w' := by
  subst hn
  exact (of_of _ _ k l hk r hr _ (he.alloc _) (by omega) (joinedL_small _ h8 h) (mem_le h (by decide)) (Strs.new _ _ _ _ hcs)).mono fun e w' ⟨h1, h2⟩ => ⟨h1, bnextA (Below.refl _ _) h2⟩
theorem itoa_of (n : Nat) (D : ByteArray) (hD : Dg.decS n = D) (hn : n ≤ 9223372036854775807) (w : World) (he : Env w) :
    Calls Tryz.prog 53 #[.int .i64 (n : Int)] w fun e w' => e = .returned (.string D) ∧ Below w.heap.size w w' := by
  have e : decB n = D := by rw [← hD, Dg.decS, decB, dec_eq n hn]
  subst e
  exact itoa_any _ n rfl hn w he
set_option maxHeartbeats 400000 in
theorem start_any (s : ByteArray) (i k : Nat) (hs : s.size ≤ 1073741824) (hi : i ≤ 1048576) (hk : k ≤ 1048576) (R : ByteArray) (hR : Dg.startB s i k = R) (w : World) (he : Env w) :
    Calls Tryz.prog 101 #[.string s, .int .i64 i, .int .i64 k] w fun e w' => e = .returned (.string R) ∧ Below w.heap.size w w' := by
  have z1 := Dg.decS_size i
  have z2 := Dg.decS_size k
  unfold Dg.startB at hR
  generalize h1 : Dg.decS i = D1 at *
  generalize h2 : Dg.decS k = D2 at *
  have H1 := hide h1; have H2 := hide h2; have HR := hide hR; clear h1 h2 hR
  have hm := hide (mem3 (a := s) (b := D1) (c := D2) (n := 1073741824) hs (by omega) (by omega))
  go_enter Tryz.func101, Tryz.ntmps101
  go_wp2_with fail
  refine (itoa_of i D1 H1.out (by omega) w he).mono ?_
  rintro e w1 ⟨rfl, hb1⟩
  go_wp2_with fail
  refine (itoa_of k D2 H2.out (by omega) w1 (he.next hb1)).mono ?_
  rintro e w2 ⟨rfl, hb2⟩
  have hb := bnext hb1 hb2
  go_wp2_with fail
  refine (of_new [s, D1, D2] _ _ 3 _ rfl (len3 _ _ _) hm.out R HR.out w2 (he.next hb) rfl _ rfl).mono ?_
  rintro e w3 ⟨rfl, hb3⟩
  go_wp2
  go_ret
  exact ⟨rfl, bnext hb hb3⟩
theorem startB_size (s : ByteArray) (i k : Nat) : (Dg.startB s i k).size = 16 := listB_size _
def endsTo (s : ByteArray) (i k : Nat) : List ByteArray := (List.range k).map fun j => Dg.ch s i j 15
theorem endsTo_len (s : ByteArray) (i k : Nat) : (endsTo s i k).length = k := by rw [endsTo, List.length_map, List.length_range]
theorem endsTo_succ (s : ByteArray) (i k : Nat) : endsTo s i (k + 1) = endsTo s i k ++ [Dg.ch s i k 15] := by rw [endsTo, List.range_succ, List.map_append]; rfl
theorem joined_16 (l : List ByteArray) (h1 : l.length ≤ 1000) (h : ∀ s ∈ l, s.size ≤ 1048576) : (Dg.joinedL l).length ≤ 1099511627776 := by
  have h2 := Dg.joinedL_len_le l 1048576 h
  have : l.length * (1048576 + 21) ≤ 1000 * (1048576 + 21) := Nat.mul_le_mul_right _ h1
  omega
set_option maxRecDepth 100000 in
set_option maxHeartbeats 1000000 in
theorem key_any (s : ByteArray) (i : Nat) (hs : s.size ≤ 1073741824) (hi : i ≤ 1048576) (R : ByteArray) (hR : Dg.keyB s i = R) (w : World) (he : Env w) :
    Calls Tryz.prog 132 #[.string s, .int .i64 i] w fun e w' => e = .returned (.string R) ∧ Below w.heap.size w w' := by
  have HR := hide hR; clear hR
  go_enter Tryz.func132, Tryz.ntmps132
  go_wp2
  go_loopw [5, 7] (fun v iv wr => ∃ k : Nat, k ≤ 18 ∧ iv = .int .i64 k ∧ Below w.heap.size w wr ∧ OwnS wr w.heap.size v (endsTo s i k)) (fun _ iv _ => 18 - (intOf iv).toNat)
  case atStart => exact ⟨0, by omega, rfl, Below.refl _ _, OwnS.nil _ _⟩
  case round =>
    obtain ⟨k, hk, rfl, hb, hO⟩ := hrel
    by_cases hlt : k < 18
    · have hst := startB_size s i k
      have hes := hide (endsTo_succ s i k)
      have hel : (endsTo s i k).length < 1099511627776 := by rw [endsTo_len]; omega
      generalize hc : Dg.ch s i k 15 = C at *
      have HC := hide (show Dg.chainB (Dg.startB s i k) 15 = C from hc); clear hc
      generalize hS : Dg.startB s i k = S0 at *
      have HS := hide hS; clear hS
      generalize endsTo s i k = q at *
      go_wp2_with fail
      refine (start_any s i k hs hi (by omega) S0 HS.out _ (he.next hb)).mono ?_
      rintro e w1 ⟨rfl, hb1⟩
      have hb' := bnext hb hb1
      go_wp2_with fail
      refine (chain_of S0 15 15 rfl C HC.out (by omega) _).mono ?_
      rintro e w2 ⟨rfl, hb2⟩
      have hb'' := bnext hb' hb2
      have hO2 := (hO.below hb1).below hb2
      go_wp2_with (at_builtin; refine step_s w2 rfl (.tmp 10) (.tmp 16) rfl C w.heap.size _ q rfl hO2 rfl hel hb''.size ?_; intro v' w3 hO3 hb3)
      go_roundw
      case rel => exact ⟨k + 1, by omega, by go_num, hb''.trans hb3, by rw [hes.out]; exact hO3⟩
      case measure => simp [intOf]; omega
    · obtain rfl : k = 18 := by omega
      obtain ⟨A, c, rfl, hc, hS⟩ := hO.strs
      have hel := endsTo_len s i 18
      have hj := joined_16 (endsTo s i 18) (by omega) (fun x hx => by rw [Dg.endsOf_size s i x hx]; decide)
      have HK : Hid (Dg.listB (endsTo s i 18) = R) := HR.out
      have hz := hide (fun x (hx : x ∈ endsTo s i 18) => (by rw [Dg.endsOf_size s i x hx]; decide : x.size ≤ 1099511627776))
      have hlen : Hid ((endsTo s i 18).length = 18) := hel
      clear hO
      generalize endsTo s i 18 = q at *
      go_wp2_with fail
      refine (of_of A c 18 q hlen.out R HK.out _ (he.next hb) (by omega) hj hz.out hS).mono ?_
      rintro e w1 ⟨rfl, hb1⟩
      go_wp2
      go_ret
      exact ⟨rfl, bnext hb hb1⟩
end Go.Proofs.YtobhpeockinnjaaGreatDoor
/- digits of package seal: the iterator. -/
namespace Go.Proofs.YtobhpeockinnjaaGreatDoor
open Go Go.RowKit Go.Sort
attribute [local go_sem] Oper.semAt_some
/-- The digits with the numbers of their chains. -/
def digTo (m : ByteArray) (k : Nat) : List (Nat × Nat) := (List.range k).map fun j => (j, Dg.dig m j)
theorem digTo_len (m : ByteArray) (k : Nat) : (digTo m k).length = k := by rw [digTo, List.length_map, List.length_range]
theorem digTo_succ (m : ByteArray) (k : Nat) : digTo m (k + 1) = digTo m k ++ [(k, Dg.dig m k)] := by rw [digTo, List.range_succ, List.map_append]; rfl
def hexB : ByteArray := ⟨#[48, 49, 50, 51, 52, 53, 54, 55, 56, 57, 97, 98, 99, 100, 101, 102]⟩
theorem indexByte_hex (d : Nat) (hd : d < 16) : Lib.indexByte hexB.data.toList (Dg.hexDigit d) = d := by
  have : ∀ d, d < 16 → Lib.indexByte hexB.data.toList (Dg.hexDigit d) = d := by decide +kernel
  exact this d hd
theorem sumB_get (m : ByteArray) (k : Nat) (hk : k < 16) : (Dg.L (Dg.sumB m))[k]? = some (Dg.hexDigit (Dg.dgt m k)) := by
  unfold Dg.sumB Dg.sum Dg.hex
  rw [Dg.L_B, Dg.hexTo_get _ _ _ hk]; rfl
def encD (x : Nat × Nat) : Array Value := #[.int .i64 (x.1 : Int), .int .i64 (x.2 : Int)]
theorem get_of_L (S : ByteArray) (k d : Nat) (h : (Dg.L S)[k]? = some (Dg.hexDigit d)) (hk : k < S.size) : S[k] = Dg.hexDigit d := by
  have h1 : (Dg.L S)[k]? = some S[k] := by
    show S.data.toList[k]? = _
    rw [Array.getElem?_toList]
    exact Array.getElem?_eq_getElem hk
  exact Option.some.inj (h1.symm.trans h)
theorem hexpos (c : UInt8) (d : Nat) (hd : d < 16) (hc : c = Dg.hexDigit d) (w : World) :
    Calls Tryz.prog 117 #[.string ⟨#[48, 49, 50, 51, 52, 53, 54, 55, 56, 57, 97, 98, 99, 100, 101, 102]⟩, .int .u8 (c.toNat : Int)] w fun e w' => e = .returned (.int .i64 (d : Int)) ∧ w' = w := by
  subst hc
  refine (Tryz.strings_IndexByte _ _ w).mono ?_
  rintro e w' ⟨rfl, rfl⟩
  have h1 : ((Dg.hexDigit d).toNat : Int).toNat.toUInt8 = Dg.hexDigit d := by simp
  rw [h1]
  exact ⟨by rw [← indexByte_hex d hd]; rfl, rfl⟩
set_option maxRecDepth 100000 in
set_option maxHeartbeats 1000000 in
theorem digits1_in (n : Nat) (hn : 2 ≤ n) (m : ByteArray) (hm : m.size ≤ 9223372036854775807) (l Bn : Nat) (J Jx : List (Nat × Nat) → World → Prop)
    (hY : ∀ pre x W, x.1 < 18 ∧ x.2 ≤ 15 → J pre W → pre.length < 18 → YieldAt Fence.wide (n - 1) Tryz.prog l (encD x) W fun e W' => (e = .returned (.bool true) ∧ J (pre ++ [x]) W') ∨ (e = .returned (.bool false) ∧ Jx (pre ++ [x]) W'))
    (W : World) (hB : W.cell? ⟨Bn, 0, none⟩ = some (.string m)) (h0 : ∀ W', Below W.heap.size W W' → J [] W') :
    CallsIn Fence.wide n Tryz.prog 116 #[.func (.yield l) #[] #[], .pointer (some ⟨Bn, 0, none⟩)] W fun e W' => (∃ v, e = .returned v) ∧ ((∃ ys, ys = digTo m 18 ∧ J ys W') ∨ (∃ pre, True ∧ Jx pre W')) := by
  refine callsIn_of_wp Tryz.func116 rfl trivial ?_ rfl
  simp only [Tryz.ntmps116, List.size_toArray, List.length_cons, List.length_nil, Nat.reduceAdd, Nat.reduceSub, Array.replicate_succ, Array.replicate_zero, List.push_toArray, List.append_toArray, List.nil_append, List.cons_append]
  have hsz := Dg.sumB_size m
  generalize hS : Dg.sumB m = S at *
  have HS := hide hS; clear hS
  gi_wp2_with (refine ⟨trivial, fun _ => (by omega), ?_⟩; gi_at_call 96; refine (callsIn_wide.2 (sum_of m S HS.out hm _)).mono ?_; rintro e w1 ⟨rfl, hb1⟩)
  have h0' := h0 w1 hb1
  clear h0 hB hb1
  gi_loopw [3, 11] (fun rv iv wr => ∃ k : Nat, k ≤ 16 ∧ rv = .int .i64 (Dg.restTo m k : Nat) ∧ iv = .int .i64 k ∧ J (digTo m k) wr) (fun _ iv _ => 16 - (intOf iv).toNat)
  case atStart => exact ⟨0, by omega, rfl, rfl, h0'⟩
  case round =>
    obtain ⟨k, hk, rfl, rfl, hJ⟩ := hrel
    have hrl := Dg.restTo_le m k
    by_cases hlt : k < 16
    · have hg := sumB_get m k hlt
      have hdl := Dg.dgt_lt m k
      have hrs : Dg.restTo m (k + 1) = Dg.restTo m k + (15 - Dg.dgt m k) := rfl
      have hlo := Dg.dig_lo m k hlt
      rw [HS.out] at hg
      have hY1 := hide (hY (digTo m k) (k, Dg.dig m k))
      have hds := hide (digTo_succ m k)
      rw [hlo] at hY1 hds
      clear hlo
      generalize Dg.dgt m k = d at *
      have hg' := hide (get_of_L S k d hg (by omega)); have hrs' := hide hrs; clear hg hrs
      generalize Dg.restTo m k = r at *
      obtain ⟨fn, tmps, assign, body, hy, hRd⟩ := hY1.out wr (show k < 18 ∧ d ≤ 15 from ⟨by omega, by omega⟩) hJ (by rw [digTo_len]; omega)
      dsimp only [encD] at hy
      gi_wp2_with (refine ⟨trivial, fun _ => (by omega), ?_⟩; gi_at_call 117; refine (callsIn_wide.2 (hexpos _ d hdl hg'.out _)).mono ?_; rintro e w' ⟨rfl, rfl⟩)
      refine ⟨fun _ => by omega, ?_⟩
      refine hRd.mono ?_
      rintro e W3 (⟨rfl, hJ3⟩ | ⟨rfl, hJ3⟩)
      · rw [← hds.out] at hJ3
        gi_wp2
        go_roundw
        case rel => exact ⟨k + 1, by omega, by rw [hrs'.out]; go_num, by go_num, hJ3⟩
        case measure => simp [intOf]; omega
      · gi_wp2
        refine bodyPost_ret (results_none rfl _ _ _) rfl ?_
        exact ⟨⟨_, rfl⟩, .inr ⟨_, trivial, hJ3⟩⟩
    · obtain rfl : k = 16 := by omega
      have hY1 := hide (hY (digTo m 16) (16, Dg.dig m 16))
      have hY2 := hide (hY (digTo m 17) (17, Dg.dig m 17))
      have hds := hide (digTo_succ m 16)
      have hds2 := hide (digTo_succ m 17)
      rw [Dg.dig_16] at hY1 hds
      rw [Dg.dig_17] at hY2 hds2
      generalize Dg.restTo m 16 = r at *
      obtain ⟨fn, tmps, assign, body, hy, hRd⟩ := hY1.out wr (show 16 < 18 ∧ r / 16 ≤ 15 from ⟨by omega, by omega⟩) hJ (by rw [digTo_len]; omega)
      dsimp only [encD] at hy
      have e1 : ((r / 16 : Nat) : Int) = (r : Int) / 16 := by omega
      have e2 : ((r % 16 : Nat) : Int) = (r : Int) % 16 := by omega
      have hy : (Instr.yield l #[.int .i64 16, .int .i64 ((r : Int) / 16)]).run Tryz.prog wr = .ok (.round l fn tmps assign body) wr := by rw [← e1]; exact hy
      clear e1
      gi_wp2
      refine ⟨fun _ => by omega, ?_⟩
      refine hRd.mono ?_
      rintro e W3 (⟨rfl, hJ3⟩ | ⟨rfl, hJ3⟩)
      · rw [← hds.out] at hJ3
        obtain ⟨fn2, tmps2, assign2, body2, hy2, hRd2⟩ := hY2.out W3 (show 17 < 18 ∧ r % 16 ≤ 15 from ⟨by omega, by omega⟩) hJ3 (by rw [digTo_len]; omega)
        dsimp only [encD] at hy2
        have hy2 : (Instr.yield l #[.int .i64 17, .int .i64 ((r : Int) % 16)]).run Tryz.prog W3 = .ok (.round l fn2 tmps2 assign2 body2) W3 := by rw [← e2]; exact hy2
        clear e2
        gi_wp2
        refine ⟨fun _ => by omega, ?_⟩
        refine hRd2.mono ?_
        rintro e W4 (⟨rfl, hJ4⟩ | ⟨rfl, hJ4⟩)
        · rw [← hds2.out] at hJ4
          gi_wp2
          go_end0
          exact ⟨⟨_, rfl⟩, .inl ⟨_, rfl, hJ4⟩⟩
        · gi_wp2
          go_end0
          exact ⟨⟨_, rfl⟩, .inr ⟨_, trivial, hJ4⟩⟩
      · gi_wp2
        go_end0
        exact ⟨⟨_, rfl⟩, .inr ⟨_, trivial, hJ3⟩⟩
end Go.Proofs.YtobhpeockinnjaaGreatDoor
/- odd of Verify: slices.ContainsFunc of strings at its closure; digits as a function value. -/
namespace Go.Proofs.YtobhpeockinnjaaGreatDoor
open Go Go.RowKit Go.Sort
theorem snotdig_any (s : ByteArray) (r : Bool) (hr : Dg.isB s = r) (hs : s.size ≤ 4611686018427387904) (w : World) :
    Calls Tryz.prog 77 #[.string s] w fun e w' => e = .returned (.bool (!r)) ∧ Below w.heap.size w w' := by
  go_enter Tryz.func77, Tryz.ntmps77
  go_wp2_with fail
  refine (is_of s r hr hs w).mono ?_
  rintro e w1 ⟨rfl, hb⟩
  clear hr
  go_wp2
  go_ret
  exact ⟨rfl, hb⟩
set_option maxHeartbeats 400000 in
theorem sindex_any (A : Option Addr) (c n : Nat) (l : List ByteArray) (R : Bool) (hR : allDig l = R) (w : World) (hl : l.length = n) (hn : n ≤ 1099511627776) (hs : ∀ s ∈ l, s.size ≤ 4611686018427387904) (hr : Strs w w.heap.size A l) :
    Calls Tryz.prog 115 #[.slice A n c, .func (.func 77) #[] #[]] w fun e w' => (∃ k : Int, e = .returned (.int .i64 k) ∧ decide (k ≥ 0) = !R) ∧ Below w.heap.size w w' := by
  subst hl
  have HR := hide hR; clear hR
  go_enter Tryz.func115, Tryz.ntmps115
  go_wp2
  go_loopw [8] (fun i wr => ∃ k : Nat, k ≤ l.length ∧ i = .int .i64 k ∧ Below w.heap.size w wr ∧ Hid (∀ s ∈ l.take k, Dg.isB s = true)) (fun i _ => l.length - (intOf i).toNat)
  case atStart => exact ⟨0, by omega, rfl, Below.refl _ _, by unfold Hid; simp⟩
  case round =>
    obtain ⟨k, hk, rfl, hb, hall⟩ := hrel
    by_cases hlt : k < l.length
    · obtain ⟨b, off, rfl, hbl, hcell⟩ := (hr.below hb).get hlt
      have hsz := hs l[k] (List.getElem_mem hlt)
      have hts := hide (List.take_succ_eq_append_getElem hlt)
      have hm := hide (List.getElem_mem hlt)
      generalize l[k] = x at *
      go_wp2_with fail
      cases hx : Dg.isB x with
      | true =>
        refine (snotdig_any x true hx hsz _).mono ?_
        rintro e w1 ⟨rfl, hb1⟩
        have hb2 := bnext hb hb1
        have hx' := hide hx; clear hx
        go_wp2
        go_roundw
        case rel =>
          refine ⟨k + 1, by omega, by go_num, hb2, ?_⟩
          unfold Hid
          rw [hts.out]
          intro s hs'
          rcases List.mem_append.1 hs' with h | h
          · exact hall.out s h
          · obtain rfl : s = x := by simpa using h
            exact hx'.out
        case measure => simp [intOf]; omega
      | false =>
        refine (snotdig_any x false hx hsz _).mono ?_
        rintro e w1 ⟨rfl, hb1⟩
        have hb2 := bnext hb hb1
        have hx' := hide hx; clear hx
        go_wp2
        go_ret
        have := (allDig_no l x hm.out hx'.out).symm.trans HR.out
        subst this
        exact ⟨⟨_, rfl, by simp⟩, hb2⟩
    · obtain rfl : k = l.length := by omega
      go_wp2
      go_ret
      have h := hall.out
      rw [List.take_length] at h
      have := (allDig_yes l h).symm.trans HR.out
      subst this
      exact ⟨⟨_, rfl, by simp⟩, hb⟩
theorem scontains_any (A : Option Addr) (c n : Nat) (l : List ByteArray) (R : Bool) (hR : allDig l = R) (w : World) (hl : l.length = n) (hn : n ≤ 1099511627776) (hs : ∀ s ∈ l, s.size ≤ 4611686018427387904) (hr : Strs w w.heap.size A l) :
    Calls Tryz.prog 76 #[.slice A n c, .func (.func 77) #[] #[]] w fun e w' => e = .returned (.bool (!R)) ∧ Below w.heap.size w w' := by
  go_enter Tryz.func76, Tryz.ntmps76
  go_wp2_with fail
  refine (sindex_any A c n l R hR w hl hn hs hr).mono ?_
  rintro e w1 ⟨⟨k, rfl, hk⟩, hb⟩
  have hk' := hide hk; clear hk hR
  go_wp2
  go_ret
  exact ⟨ret_bool (by have := hk'.out; simpa using this), hb⟩
theorem odd_any (A : Option Addr) (c n : Nat) (l : List ByteArray) (R : Bool) (hR : allDig l = R) (w : World) (hl : l.length = n) (hn : n ≤ 1099511627776) (hs : ∀ s ∈ l, s.size ≤ 4611686018427387904) (hr : Strs w w.heap.size A l) :
    Calls Tryz.prog 75 #[.slice A n c] w fun e w' => e = .returned (.bool (!R)) ∧ Below w.heap.size w w' := by
  go_enter Tryz.func75, Tryz.ntmps75
  go_wp2_with fail
  refine (scontains_any A c n l R hR w hl hn hs hr).mono ?_
  rintro e w1 ⟨rfl, hb⟩
  clear hR
  go_wp2
  go_ret
  exact ⟨rfl, hb⟩
theorem sdigits_any (m : ByteArray) (w : World) :
    Calls Tryz.prog 78 #[.string m] w fun e w' => e = .returned (.func (.func 116) #[] #[.pointer (some ⟨w.heap.size, 0, none⟩)]) ∧ w' = w.alloc (.cells #[.string m] 9) := by
  go_enter Tryz.func78, Tryz.ntmps78
  go_wp2
  go_ret
  exact ⟨rfl, rfl⟩
/-- A digit with the number of its chain. -/
abbrev DigP := {x : Nat × Nat // x.1 < 18 ∧ x.2 ≤ 15}
/-- digits hands out all digits in order, or stops where a round has said so. -/
theorem digits_stops (n : Nat) (hn : 2 ≤ n) (m : ByteArray) (hm : m.size ≤ 9223372036854775807) (Bn : Nat) (w : World) (hBn : Bn < w.heap.size) (hc : w.cell? ⟨Bn, 0, none⟩ = some (.string m)) :
    SeqStopsK Fence.wide n Tryz.prog 116 #[.pointer (some ⟨Bn, 0, none⟩)] (fun x : DigP => encD x.1) (fun _ _ => True) (fun ys => ys.map Subtype.val = digTo m 18) (fun _ => True) 18 w := by
  intro l J Jx W hW hJ hJx hY h0
  refine (digits1_in n hn m hm l Bn (fun pre W => ∃ p : List DigP, p.map Subtype.val = pre ∧ J p W) (fun _ W => ∃ p : List DigP, Jx p W) (fun pre x W1 hx h1 h2 => ?_) W ((hW.cell (p := ⟨Bn, 0, none⟩) hBn).trans hc) (fun W' hb => ⟨[], rfl, hJ _ _ _ none h0 ⟨hb.os, hb.tape, hb.output, hb.size, fun k hk _ => hb.block k hk⟩ (fun r e => by cases e)⟩)).mono ?_
  · obtain ⟨p, rfl, h1⟩ := h1
    rw [List.length_map] at h2
    obtain ⟨fn, tmps, assign, body, hy, hR⟩ := hY p ⟨x, hx⟩ W1 h1 h2
    refine ⟨fn, tmps, assign, body, hy, hR.mono ?_⟩
    rintro e W' (⟨h3, h4, _⟩ | ⟨h3, h4⟩)
    · exact Or.inl ⟨h3, _, by rw [List.map_append]; rfl, h4⟩
    · exact Or.inr ⟨h3, _, h4⟩
  · rintro e W' ⟨h1, ⟨ys, rfl, p, h2, h3⟩ | ⟨pre, _, p, h2⟩⟩
    · exact ⟨h1, .inl ⟨p, h2, h3⟩⟩
    · exact ⟨h1, .inr ⟨p, trivial, h2⟩⟩
end Go.Proofs.YtobhpeockinnjaaGreatDoor
/- keys, Public of package seal. -/
namespace Go.Proofs.YtobhpeockinnjaaGreatDoor
open Go Go.RowKit Go.Sort
theorem pow_wrap (h n : Nat) (hn : 2 ^ h = n) (hh : h ≤ 62) : wrap64 (2 ^ h) = (n : Int) := by
  have := Nat.pow_le_pow_right (n := 2) (by omega) hh
  have h2 : 2 ^ 62 = 4611686018427387904 := by decide
  rw [show (2 : Int) ^ h = (n : Int) by rw [← hn]; push_cast; rfl, IntWalk.wrap64_in _ (by omega)]
theorem pow_le8 (h : Nat) (hh : h ≤ 8) : 2 ^ h ≤ 256 := Nat.pow_le_pow_right (n := 2) (by omega) hh
/-- The keys as far as they are laid. -/
def keysTo (s : ByteArray) (n k : Nat) : List ByteArray := (List.range n).map fun j => if j < k then Dg.keyB s j else ⟨#[]⟩
theorem keysTo_len (s : ByteArray) (n k : Nat) : (keysTo s n k).length = n := by rw [keysTo, List.length_map, List.length_range]
theorem keysTo_zero (s : ByteArray) (n : Nat) : keysTo s n 0 = List.replicate n ⟨#[]⟩ := by
  apply List.ext_getElem
  · rw [keysTo_len, List.length_replicate]
  · intro j h1 h2
    rw [List.getElem_replicate]
    simp [keysTo]
theorem keysTo_get (s : ByteArray) (n k j : Nat) (hj : j < n) : (keysTo s n k)[j]? = some (if j < k then Dg.keyB s j else ⟨#[]⟩) := by
  rw [keysTo, List.getElem?_map, List.getElem?_range hj]; rfl
theorem keysTo_succ (s : ByteArray) (n k : Nat) (hk : k < n) : (keysTo s n k).set k (Dg.keyB s k) = keysTo s n (k + 1) := by
  apply List.ext_getElem?
  intro j
  by_cases hj : j < n
  · rw [List.getElem?_set, keysTo_get _ _ _ _ hj, keysTo_get _ _ _ _ hj, keysTo_len]
    by_cases h : k = j
    · subst h; simp [hk]
    · rw [if_neg h]
      by_cases h2 : j < k
      · rw [if_pos h2, if_pos (by omega)]
      · rw [if_neg h2, if_neg (by omega)]
  · rw [List.getElem?_eq_none (by rw [List.length_set, keysTo_len]; omega), List.getElem?_eq_none (by rw [keysTo_len]; omega)]
theorem keysTo_all (s : ByteArray) (h n : Nat) (hn : 2 ^ h = n) : keysTo s n n = Dg.keysB s h := by
  subst hn
  unfold keysTo Dg.keysB
  apply List.map_congr_left
  intro k hk
  rw [if_pos (List.mem_range.1 hk)]
theorem OwnS.set {w : World} {B g n cap : Nat} {l : List ByteArray} (h : OwnS w B (.slice (some ⟨g, 0, none⟩) n cap) l) (j : Nat) (s : ByteArray) : OwnS (w.setCell ⟨g, j, none⟩ (.string s)) B (.slice (some ⟨g, 0, none⟩) n cap) (l.set j s) := by
  have hn : (l.map Value.string).length = n := by
    have h1 := h
    obtain ⟨_, _, h2⟩ := OwnV.form h1
    injection h2 with _ h3 _
    exact h3.symm
  unfold OwnS OwnV at *
  rw [List.map_set, List.length_set]
  rw [hn] at h ⊢
  exact (h.stored j _).1
theorem OwnS.frz {w : World} {B g n cap : Nat} {l : List ByteArray} (h : OwnS w B (.slice (some ⟨g, 0, none⟩) n cap) l) (j : Nat) : w.frozen? ⟨g, j, none⟩ = false := by
  rcases h.cases with ⟨h1, _⟩ | ⟨g', cap', h1, _, _, _, _, hf⟩
  · injection h1 with h2 _ _
    exact absurd h2 (by simp)
  · injection h1 with h2 _ _
    injection h2 with h3
    injection h3 with h4 _ _
    subst h4
    exact hf j
set_option maxRecDepth 100000 in
set_option maxHeartbeats 1000000 in
theorem keys_any (s : ByteArray) (h : Nat) (hs : s.size ≤ 1073741824) (hh : h ≤ 8) (w : World) (he : Env w) :
    Calls Tryz.prog 100 #[.string s, .int .i64 h] w fun e w' => ∃ v, e = .returned v ∧ OwnS w' w.heap.size v (Dg.keysB s h) ∧ Below w.heap.size w w' := by
  have h8 := pow_le8 h hh
  have hk := hide (keysTo_all s h (2 ^ h) rfl)
  have hw := hide (pow_wrap h (2 ^ h) rfl (by omega))
  generalize hn : 2 ^ h = n at *
  clear hn
  obtain ⟨i, h1, h2, h3, h4⟩ := info_parts strInfo
  go_enter Tryz.func100, Tryz.ntmps100
  go_wp2_with (at_make; go_loud (refine wpList_make_full _ rfl _ _ 27 rfl w.heap.size 9 i _ 1 Tryz.underlying27 h1 h2 h3 _ _ _ _ n rfl rfl hw.out hw.out (by rw [h4]; omega) (by unfold maxLen; omega) (Nat.le_refl _) ?_); intro w1 ho hgr)
  have hO : OwnS w1 w.heap.size (.slice (some ⟨w.heap.size, 0, none⟩) n n) (keysTo s n 0) := by
    unfold OwnS OwnV
    rw [keysTo_zero, List.map_replicate, List.length_replicate]
    have h5 := ho
    rw [show n * 1 = n by omega] at h5
    rw [← toList_madeCells_one]
    exact h5
  have hb1 : Below w.heap.size w w1 := below_own (World.ownsRow_nil w w.heap.size 9 1) hgr (Nat.le_refl _)
  clear ho hgr
  go_loopw [12] (fun iv wr => ∃ k : Nat, k ≤ n ∧ iv = .int .i64 k ∧ Below w.heap.size w wr ∧ OwnS wr w.heap.size (.slice (some ⟨w.heap.size, 0, none⟩) n n) (keysTo s n k)) (fun iv _ => n - (intOf iv).toNat)
  case atStart => exact ⟨0, by omega, rfl, hb1, hO⟩
  case round =>
    obtain ⟨k, hk2, rfl, hb, hO2⟩ := hrel
    by_cases hlt : k < n
    · have hst := hide (keysTo_succ s n k hlt)
      have hkg := keysTo_get s n k k hlt
      rw [if_neg (Nat.lt_irrefl k)] at hkg
      generalize hK : Dg.keyB s k = R at *
      have HK := hide hK; clear hK
      generalize keysTo s n k = q at *
      go_wp2_with fail
      refine (key_any s k hs (by omega) R HK.out _ (he.next hb)).mono ?_
      rintro e w2 ⟨rfl, hbk⟩
      have hb2 := bnext hb hbk
      have hO3 := hO2.below hbk
      have hcell := hO3.getc k _ hkg
      have hfr := OwnS.frz hO3 k
      have hset := hO3.set k R
      rw [hst.out] at hset
      have hbs : Below w.heap.size w (w2.setCell ⟨w.heap.size, k, none⟩ (.string R)) := hb2.setCell (p := ⟨w.heap.size, k, none⟩) (Nat.le_refl _) _
      clear hkg hO2 hO3
      go_wp2
      go_roundw
      case rel => exact ⟨k + 1, by omega, by go_num, hbs, hset⟩
      case measure => simp [intOf]; omega
    · obtain rfl : k = n := by omega
      rw [hk.out] at hO2
      go_wp2
      go_ret
      exact ⟨_, rfl, hO2, hb⟩
set_option maxRecDepth 100000 in
set_option maxHeartbeats 1000000 in
theorem public_any (s : ByteArray) (h : Nat) (hs : s.size ≤ 1073741824) (hh : h ≤ 8) (R : ByteArray) (hR : Dg.publicB s h = R) (w : World) (he : Env w) :
    Calls Tryz.prog 56 #[.string s, .int .i64 h] w fun e w' => e = .returned (.tuple #[.string R, .int .i64 0]) ∧ Below w.heap.size w w' := by
  have h8 := pow_le8 h hh
  have hl : (Dg.keysB s h).length ≤ 256 := by rw [Dg.keysB_len]; exact h8
  clear h8
  have hz := hide (fun x (hx : x ∈ Dg.keysB s h) => (by rw [Dg.keysB_size s h x hx]; decide : x.size ≤ 1073741824))
  have HR := hide (show Dg.root (Dg.keysB s h) = R from hR); clear hR
  go_enter Tryz.func56, Tryz.ntmps56
  go_wp2_with fail
  refine (keys_any s h hs hh w he).mono ?_
  rintro e w1 ⟨v, rfl, hO, hb⟩
  obtain ⟨A, c, rfl, hc, hS⟩ := hO.strs
  clear hO
  generalize Dg.keysB s h = q at *
  go_wp2_with fail
  refine (root_of q.length A c q R w1 rfl HR.out (he.next hb) hc (by omega) hz.out hS).mono ?_
  rintro e w2 ⟨rfl, hb2⟩
  have hb3 := bnext hb hb2
  go_wp2
  go_ret2
  exact ⟨rfl, hb3⟩
end Go.Proofs.YtobhpeockinnjaaGreatDoor

