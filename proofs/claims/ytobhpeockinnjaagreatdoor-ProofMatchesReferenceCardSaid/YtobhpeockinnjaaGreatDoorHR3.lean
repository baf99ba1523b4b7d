/- Walks and laws of this seat, several texts in one. No conditions but those that each theorem states. -/
import Derived.Test.YtobhpeockinnjaaGreatDoorHR2
import Derived.RangeFuncCalls
import Derived.Shelf.RegionOpen
import Derived.Deep.RegionHeld3
import Derived.RangeFuncSeq
import Derived.RangeFuncBox
import Derived.RangeFuncKeeps
import Derived.Sort.MapsRangeIn
import Derived.Lib.SlKeysI
import Derived.WalkKit
import Derived.OwnWalkIn
import Derived.TacticsInMore
import Derived.RegionIn
import Derived.LoopNIn
import Derived.LoopIn
/- Sign of package seal: what its loop keeps; the set-up. -/
namespace Go.Proofs.YtobhpeockinnjaaGreatDoor
open Go Go.RowKit Go.Sort
attribute [local go_sem] Oper.semAt_some
/-- What the loop of Sign keeps: the seal under way lies in block bo, its texts are the call's own; what lay below bo lies on. -/
def SignInv (w0 : World) (bo n1 : Nat) (i : Int) (l : List ByteArray) (W : World) : Prop :=
  (∃ v, W.heap[bo]? = some (.cells #[.int .i64 i, v, .slice none 0 0] 42 (0, 0)) ∧ OwnS W n1 v l) ∧ Below bo w0 W
theorem SignInv.own (w0 : World) (bo n1 : Nat) (i : Int) (f : List DigP → List ByteArray) (B : Nat) (hB : bo < B) : OwnFrom B (fun pre W => SignInv w0 bo n1 i (f pre) W) := by
  rintro pre W W' row ⟨⟨v, h1, h2⟩, h3⟩ hg hr
  have hbl := (Array.getElem?_eq_some_iff.1 h1).1
  have hne : ∀ k (o : Obj), W.heap[k]? = some o → o.isCells = true → some k ≠ row := fun k o hk ho e => by
    obtain ⟨_, o', h4, h5⟩ := hr k e.symm
    rw [hk] at h4; cases h4; rw [ho] at h5; exact Bool.noConfusion h5
  refine ⟨⟨v, (hg.block bo hbl (hne bo _ h1 rfl)).trans h1, ?_⟩, ?_⟩
  · refine World.ownsRow.kept h2 hg ?_
    rcases h2.2 with ⟨rfl, _⟩ | ⟨g, cap, cur, rfl, _, hgb, _⟩
    · exact .inl rfl
    · exact .inr fun e => hne g _ hgb rfl (by simpa [Value.ownBlock] using e)
  · refine ⟨hg.os.trans h3.os, hg.tape.trans h3.tape, hg.output.trans h3.output, Nat.le_trans h3.size hg.size, fun k hk => ?_⟩
    refine (hg.block k (by omega) (fun e => ?_)).trans (h3.block k hk)
    have := (hr k e.symm).1
    omega
theorem Dg.startB_sz (s : ByteArray) (i k : Nat) : (Dg.startB s i k).size = 16 := listB_size _
/-- The texts of a seal as far as its digits go. -/
def sigTo (s : ByteArray) (i : Nat) (pre : List DigP) : List ByteArray := pre.map fun x => Dg.ch s i x.1.1 x.1.2
theorem sign_setup (w : World) (A B C M : Obj) (q : Nat) (i : Int) (W : World) (hW : W = (((((w.alloc A).alloc B).alloc C).drewN q).alloc (.cells #[.int .i64 i, .slice none 0 0, .slice none 0 0] 42)).alloc M) :
    ∃ w2 : World, w2.heap.size = w.heap.size + 3 ∧ Below w.heap.size w w2 ∧ w2.heap[w.heap.size]? = some A ∧ w2.heap[w.heap.size + 1]? = some B ∧ w2.heap[w.heap.size + 2]? = some C ∧ SignInv w2 (w.heap.size + 3) (w.heap.size + 4) i [] W ∧ W.heap.size = w.heap.size + 5 ∧ W.heap[w.heap.size + 4]? = some M := by
  subst hW
  have a1 := heap_alloc_new w A
  have a2 := heap_alloc_new (w.alloc A) B
  have a3 := heap_alloc_new ((w.alloc A).alloc B) C
  have s1 : (w.alloc A).heap.size = w.heap.size + 1 := by simp
  have s2 : ((w.alloc A).alloc B).heap.size = w.heap.size + 2 := by simp
  have s3 : (((w.alloc A).alloc B).alloc C).heap.size = w.heap.size + 3 := by simp
  rw [s1] at a2
  rw [s2] at a3
  have b12 : Below (w.heap.size + 1) (w.alloc A) (((w.alloc A).alloc B).alloc C) := ((Below.refl _ _).alloc (by simp) _).alloc (by simp) _
  have b23 : Below (w.heap.size + 2) ((w.alloc A).alloc B) (((w.alloc A).alloc B).alloc C) := (Below.refl _ _).alloc (by simp) _
  have b03 : Below w.heap.size w (((w.alloc A).alloc B).alloc C) := (((Below.refl _ _).alloc (Nat.le_refl _) _).alloc (by simp) _).alloc (by simp; omega) _
  generalize hw3 : (((w.alloc A).alloc B).alloc C) = w3 at *
  have e0 : w3.heap[w.heap.size]? = some A := (b12.block _ (by omega)).trans a1
  have e1 : w3.heap[w.heap.size + 1]? = some B := (b23.block _ (by omega)).trans a2
  have bd : Below w.heap.size w (w3.drewN q) := below_drewN b03 q
  have hd : (w3.drewN q).heap = w3.heap := by simp
  generalize w3.drewN q = w2 at *
  have s4 : w2.heap.size = w.heap.size + 3 := by rw [hd]; exact s3
  refine ⟨w2, s4, bd, by rw [hd]; exact e0, by rw [hd]; exact e1, by rw [hd]; exact a3, ⟨⟨.slice none 0 0, ?_, OwnS.nil _ _⟩, ?_⟩, ?_, ?_⟩
  · have := heap_alloc_new w2 (.cells #[.int .i64 i, .slice none 0 0, .slice none 0 0] 42)
    rw [s4] at this
    exact (((Below.refl (w.heap.size + 4) (w2.alloc (.cells #[.int .i64 i, .slice none 0 0, .slice none 0 0] 42))).alloc (by simp; omega) M).block _ (by omega)).trans this
  · exact ((Below.refl _ w2).alloc (by omega) _).alloc (by simp; omega) _
  · simp; omega
  · have := heap_alloc_new (w2.alloc (.cells #[.int .i64 i, .slice none 0 0, .slice none 0 0] 42)) M
    rw [show (w2.alloc (.cells #[.int .i64 i, .slice none 0 0, .slice none 0 0] 42)).heap.size = w.heap.size + 4 by simp; omega] at this
    exact this
theorem keeps_below {W W' : World} (h : Below W.heap.size W W') : KeepsOthers W W' := ⟨h.size, fun k _ hk _ => (h.block k (Array.getElem?_eq_some_iff.1 hk).1).trans hk⟩
theorem keeps_own {W W' : World} {B : Nat} {v : Value} {l : List ByteArray} (hO : OwnS W B v l) (hg : W.grownBy W' v.ownBlock) : KeepsOthers W W' := KeepsOthers.of_grownBy hg (fun j o e hj => by
  rcases hO.2 with ⟨rfl, _⟩ | ⟨g, cap, cur, rfl, _, hgb, _⟩
  · simp [Value.ownBlock] at e
  · have : g = j := by simpa [Value.ownBlock] using e
    subst this
    rw [hgb] at hj
    cases hj
    rfl)
theorem OwnS.setFar {w : World} {B : Nat} {v : Value} {l : List ByteArray} (h : OwnS w B v l) {b : Nat} (hb : b < B) (i : Nat) (u : Value) : OwnS (w.setCell ⟨b, i, none⟩ u) B v l := ownsRow_setCell_below h hb u
/-- What a round of Sign's loop leaves. -/
theorem SignInv.round {w0 : World} {bo n1 : Nat} {i : Int} {v : Value} {l : List ByteArray} {W w9 : World} {g c n : Nat} (hB : Below bo w0 W) (hW : Below bo W w9) (hn : bo < n1)
    (hf : w9.heap[bo]? = some (.cells #[.int .i64 i, v, .slice none 0 0] 42 (0, 0))) (hO : OwnS w9 n1 (.slice (some ⟨g, 0, none⟩) n c) l) :
    SignInv w0 bo n1 i l (w9.setCell ⟨bo, 1, none⟩ (.slice (some ⟨g, 0, none⟩) n c)) :=
  ⟨⟨_, (heap_setCell_same _ _ _ _ _ _ hf).trans rfl, hO.setFar hn 1 _⟩, (hB.trans hW).setCell (p := ⟨bo, 1, none⟩) (Nat.le_refl _) _⟩
theorem sigTo_snoc (s : ByteArray) (i : Nat) (pre : List DigP) (x : DigP) : sigTo s i (pre ++ [x]) = sigTo s i pre ++ [Dg.ch s i x.1.1 x.1.2] := by unfold sigTo; rw [List.map_append]; rfl
theorem sigTo_all (s : ByteArray) (i : Nat) (m : ByteArray) (xs : List DigP) (h : xs.map Subtype.val = digTo m 18) : sigTo s i xs = Dg.sigB s i m := by
  have : sigTo s i xs = (xs.map Subtype.val).map fun x => Dg.ch s i x.1 x.2 := by unfold sigTo; rw [List.map_map]; rfl
  rw [this, h]
  unfold digTo Dg.sigB
  rw [List.map_map]
  rfl
/-- A slice of strings lies on where only blocks turn that hold no strings. -/
theorem Strs.stable {w w' : World} {A : Option Addr} {l : List ByteArray} (h : Strs w w.heap.size A l) (hsz : w.heap.size ≤ w'.heap.size)
    (hk : ∀ b, (∀ off s, w.cell? ⟨b, off, none⟩ ≠ some (.string s)) ∨ w'.heap[b]? = w.heap[b]?) : Strs w' w'.heap.size A l :=
  ⟨fun hl => by
    obtain ⟨b, off, e, hb, hc⟩ := h.at_ hl
    refine ⟨b, off, e, by omega, fun j s hj => ?_⟩
    rcases hk b with h1 | h1
    · exact absurd (hc j s hj) (h1 _ _)
    · exact (World.cell?_of_block (a := ⟨b, off + j, none⟩) h1).trans (hc j s hj)⟩
theorem no_string_row {w : World} {b : Nat} {cs : Array Value} {T : TypeId} (h : w.heap[b]? = some (.cells cs T (0, 0))) (hcs : ∀ (v : Value), v ∈ cs.toList → ∀ s, v ≠ .string s) (off : Nat) (s : ByteArray) : w.cell? ⟨b, off, none⟩ ≠ some (.string s) := fun e => by
  rw [cell_of_row _ _ _ _ _ (0, 0) h] at e
  exact hcs _ (by rw [← Array.getElem?_toList] at e; exact List.mem_of_getElem? e) s rfl
theorem no_string_def {w : World} {b : Nat} {o : Option (List Deferred)} (h : w.heap[b]? = some (.deferred o)) (off : Nat) (s : ByteArray) : w.cell? ⟨b, off, none⟩ ≠ some (.string s) := fun e => by
  unfold World.cell? at e
  simp [h] at e
theorem mem_3 {a b c : Value} {P : Value → Prop} (ha : P a) (hb : P b) (hc : P c) : ∀ v ∈ #[a, b, c].toList, P v := fun v hv => by
  simp at hv
  rcases hv with rfl | rfl | rfl
  · exact ha
  · exact hb
  · exact hc
/-- What lies where Sign has come to its end. -/
theorem sign_end {w w3 : World} {D i : Nat} {Av Ap : Option Addr} {ns cv np cp : Nat} {l q : List ByteArray} (hD : w.heap.size + 5 ≤ D) (hK : w3.heap[D]? = some (.deferred (some [])))
    (hr : w3.heap[w.heap.size + 2]? = some (.cells #[.int .i64 0, .slice none 0 0, .slice none 0 0] 42 (0, 0)))
    (hf : w3.heap[w.heap.size + 3]? = some (.cells #[.int .i64 i, .slice Av ns cv, .slice none 0 0] 42 (0, 0)))
    (hO : OwnS w3 (w.heap.size + 4) (.slice Av ns cv) l) (hS : Strs w3 w3.heap.size Ap q) (hb : Below w.heap.size w w3) (F : World)
    (hF : F = (((((w3.setCell ⟨w.heap.size + 3, 2, none⟩ (.slice Ap np cp)).setCell ⟨w.heap.size + 2, 0, none⟩ (.int .i64 i)).setCell ⟨w.heap.size + 2, 1, none⟩ (.slice Av ns cv)).setCell ⟨w.heap.size + 2, 2, none⟩ (.slice Ap np cp)).putObj D (.deferred none))) :
    F.heap[w.heap.size + 2]? = some (.cells #[.int .i64 i, .slice Av ns cv, .slice Ap np cp] 42 (0, 0)) ∧ Strs F F.heap.size Av l ∧ Strs F F.heap.size Ap q ∧ Below w.heap.size w F := by
  have hDl := (Array.getElem?_eq_some_iff.1 hK).1
  have hsz : F.heap.size = w3.heap.size := by subst hF; simp
  have hoth : ∀ b, b ≠ D → b ≠ w.heap.size + 2 → b ≠ w.heap.size + 3 → F.heap[b]? = w3.heap[b]? := fun b h1 h2 h3 => by
    subst hF
    rw [World.putObj_heap_other h1, heap_setCell_other _ _ _ _ h2, heap_setCell_other _ _ _ _ h2, heap_setCell_other _ _ _ _ h2, heap_setCell_other _ _ _ _ h3]
  refine ⟨?_, ?_, ?_, ?_⟩
  · subst hF
    rw [World.putObj_heap_other (by omega)]
    exact heap_setCell_same _ _ _ _ _ _ (heap_setCell_same _ _ _ _ _ _ (heap_setCell_same _ _ _ _ _ _ ((heap_setCell_other _ _ _ _ (by show w.heap.size + 2 ≠ w.heap.size + 3; omega)).trans hr)))
  · refine ⟨fun hl => ?_⟩
    rcases hO.cases with ⟨_, rfl⟩ | ⟨g, cap, h1, h2, h3, _, hc, _⟩
    · simp at hl
    · injection h1 with h4 _ _
      subst h4
      have hgb : ∃ cur, w3.heap[g]? = some (.cells cur 9) := by
        rcases hO.2 with ⟨h5, _⟩ | ⟨g', cap', cur, h5, _, h6, _⟩
        · injection h5 with h6 _ _; cases h6
        · injection h5 with h7 _ _
          injection h7 with h7
          injection h7 with h7 _ _
          subst h7
          exact ⟨cur, h6⟩
      obtain ⟨cur, hgb⟩ := hgb
      have hgD : g ≠ D := fun e => by subst e; rw [hK] at hgb; cases hgb
      exact ⟨g, 0, rfl, by omega, fun j s hj => (World.cell?_of_block (a := ⟨g, 0 + j, none⟩) (hoth g hgD (by omega) (by omega))).trans (by rw [Nat.zero_add]; exact hc j s hj)⟩
  · refine hS.stable (by omega) fun b => ?_
    by_cases h1 : b = D
    · subst h1; exact Or.inl (no_string_def hK)
    · by_cases h2 : b = w.heap.size + 2
      · subst h2; exact Or.inl (no_string_row hr (mem_3 (P := fun v => ∀ s, v ≠ .string s) (fun _ e => by cases e) (fun _ e => by cases e) (fun _ e => by cases e)))
      · by_cases h3 : b = w.heap.size + 3
        · subst h3; exact Or.inl (no_string_row hf (mem_3 (P := fun v => ∀ s, v ≠ .string s) (fun _ e => by cases e) (fun _ e => by cases e) (fun _ e => by cases e)))
        · exact Or.inr (hoth b h1 h2 h3)
  · have hF' : Below w.heap.size w ((((w3.setCell ⟨w.heap.size + 3, 2, none⟩ (.slice Ap np cp)).setCell ⟨w.heap.size + 2, 0, none⟩ (.int .i64 i)).setCell ⟨w.heap.size + 2, 1, none⟩ (.slice Av ns cv)).setCell ⟨w.heap.size + 2, 2, none⟩ (.slice Ap np cp)) :=
      (((hb.setCell (p := ⟨w.heap.size + 3, 2, none⟩) (by show w.heap.size ≤ w.heap.size + 3; omega) _).setCell (p := ⟨w.heap.size + 2, 0, none⟩) (by show w.heap.size ≤ w.heap.size + 2; omega) _).setCell (p := ⟨w.heap.size + 2, 1, none⟩) (by show w.heap.size ≤ w.heap.size + 2; omega) _).setCell (p := ⟨w.heap.size + 2, 2, none⟩) (by show w.heap.size ≤ w.heap.size + 2; omega) _
    refine ⟨by subst hF; exact hF'.os, by subst hF; exact hF'.tape, by subst hF; exact hF'.output, by have := hb.size; omega, fun k hk => ?_⟩
    exact (hoth k (by omega) (by omega) (by omega)).trans (hb.block k hk)
/-- What Sign hands back. -/
def SealOut (s m : ByteArray) (h i : Nat) (w : World) (e : Ending) (w' : World) : Prop :=
  ∃ A c A' c', e = .returned (.tuple #[.agg #[.int .i64 i, .slice A 18 c, .slice A' h c'], .int .i64 0]) ∧ 18 ≤ c ∧ h ≤ c' ∧ Strs w' w'.heap.size A (Dg.sigB s i m) ∧ Strs w' w'.heap.size A' (Dg.sealPath s h i) ∧ Below w.heap.size w w'
end Go.Proofs.YtobhpeockinnjaaGreatDoor
/- Sign of package seal, walked. -/
namespace Go.Proofs.YtobhpeockinnjaaGreatDoor
open Go Go.RowKit Go.Sort
attribute [local go_sem] Oper.semAt_some
set_option maxRecDepth 100000 in
set_option maxHeartbeats 1000000 in
theorem sign_any (s m : ByteArray) (h i : Nat) (hs : s.size ≤ 1073741824) (hm : m.size ≤ 9223372036854775807) (hh : h ≤ 8) (hi : i < 2 ^ h) (w : World) (he : Env w) :
    Calls Tryz.prog 57 #[.string s, .int .i64 h, .int .i64 i, .string m] w (SealOut s m h i w) := by
  have hpl0 := hide (Dg.sealPath_len s h i hi)
  have h8 := pow_le8 h hh
  have hw := pow_wrap h (2 ^ h) rfl (by omega)
  generalize hn : 2 ^ h = n at *
  have d1 : decide ((h : Int) < 0) = false := decide_eq_false (by omega)
  have d2 : decide (8 < (h : Int)) = false := decide_eq_false (by omega)
  have d3 : decide ((i : Int) < 0) = false := decide_eq_false (by omega)
  have d4 : decide ((n : Int) ≤ (i : Int)) = false := decide_eq_false (by omega)
  have d5 : decide (n ≤ i) = false := decide_eq_false (by omega)
  refine (callsIn_wide (n := 5)).1 ?_
  refine callsIn_of_wp_marks Tryz.func57 rfl trivial ?_ rfl
  simp only [Tryz.ntmps57, List.size_toArray, List.length_cons, List.length_nil, Nat.reduceAdd, Nat.reduceSub, Array.replicate_succ, Array.replicate_zero, List.push_toArray, List.append_toArray, List.nil_append, List.cons_append]
  refine wpIn_wide.2 ?_
  go_wp2
  go_quiet (fail)
  go_wp2_with (go_at_call 78; refine (sdigits_any _ _).mono ?_; rintro e w' ⟨rfl, rfl⟩)
  generalize hW5 : World.alloc _ (.cells #[.string m] 9) = W5
  obtain ⟨w2, q1, q2, q3, q4, q5, hI, q6, q7⟩ := sign_setup w _ _ _ _ nq (i : Int) W5 hW5.symm
  have hc5 : W5.cell? ⟨w.heap.size + 4, 0, none⟩ = some (.string m) := by rw [cell_of_row _ _ _ _ _ (0, 0) q7]; rfl
  refine (wpIn_wide (n := 5)).1 ?_
  refine wpIn_rangeFunc_ownG (n := 5) rfl (by omega) (gf := 116) (lb := #[.pointer (some ⟨w.heap.size + 4, 0, none⟩)]) rfl trivial (enters_of Tryz.func116 (by kernel_rfl) rfl)
    (digits_stops 4 (by omega) m hm (w.heap.size + 4) W5 (by omega) hc5) (fun _ _ => trivial) (fun _ _ _ _ _ _ _ _ => trivial) (Below.refl _ _) (fun _ => rfl)
    (fun pre W => SignInv w2 (w.heap.size + 3) (w.heap.size + 4) i (sigTo s i pre) W) (fun _ _ _ => False)
    (SignInv.own w2 _ _ _ _ _ (by omega)) (fun _ _ _ _ _ hs _ _ => hs) hI ?a1 ?assign ?body ?done ?stop
  case assign =>
    intro l x W K hK
    simp only [encD]
    gi_wp2
    exact hK
  case body =>
    rintro l pre ⟨⟨k, d⟩, hk, hd⟩ W ⟨⟨v, hv, hO⟩, hB⟩ hlt
    have hk : k < 18 := hk
    have hd : d ≤ 15 := hd
    have hcs : W.cell? ⟨w.heap.size, 0, none⟩ = some (.string s) := by rw [hB.cell (p := ⟨w.heap.size, 0, none⟩) (by show w.heap.size < _; omega), cell_of_row _ _ _ _ _ (0, 0) q3]; rfl
    have hci : W.cell? ⟨w.heap.size + 1, 0, none⟩ = some (.int .i64 (i : Int)) := by rw [hB.cell (p := ⟨w.heap.size + 1, 0, none⟩) (by show w.heap.size + 1 < _; omega), cell_of_row _ _ _ _ _ (0, 0) q4]; rfl
    have hco : W.cell? ⟨w.heap.size + 3, 1, none⟩ = some v := by rw [cell_of_row _ _ _ _ _ (0, 0) hv]; rfl
    have hco : W.cell? ⟨w.heap.size + 1 + 1 + 1, 1, none⟩ = some v := hco
    have hfo : W.frozen? ⟨w.heap.size + 1 + 1 + 1, 1, none⟩ = false := frozen_of_row _ _ _ _ _ hv
    have hlB : w.heap.size + 3 < W.heap.size := (Array.getElem?_eq_some_iff.1 hv).1
    have heW : Env W := he.next (q2.trans (hB.mono (by omega)))
    have hmx : Tryz.prog.follows .mixedOrders = true := by kernel_rfl
    have hst := Dg.startB_sz s i k
    generalize hS : Dg.startB s i k = S0 at *
    have HS := hide hS; clear hS
    generalize hC : Dg.chainB S0 d = C0 at *
    have HC := hide hC; clear hC
    have hmin : Hid ((min (d : Int) 1000).toNat = d) := by unfold Hid; omega
    gi_wp2
    have hHeld : (fun W' : World => W'.cell? ⟨w.heap.size, 0, none⟩ = some (.string s) ∧ W'.cell? ⟨w.heap.size + 1, 0, none⟩ = some (.int .i64 (i : Int)) ∧ W'.cell? ⟨w.heap.size + 1 + 1 + 1, 1, none⟩ = some v) W.drew := ⟨hcs, hci, hco⟩
    refine wpIn_region_L (fun W' => W'.cell? ⟨w.heap.size, 0, none⟩ = some (.string s) ∧ W'.cell? ⟨w.heap.size + 1, 0, none⟩ = some (.int .i64 (i : Int)) ∧ W'.cell? ⟨w.heap.size + 1 + 1 + 1, 1, none⟩ = some v) 11 hmx (by kernel_rfl) (fun ⟨_, _, h⟩ => h) ?_
    refine wpAnyL_take (i := 0) (f0 := 12) (v := ?_) rfl (by decide +kernel) (by decide +kernel) (by decide +kernel) (by decide +kernel) (by decide +kernel) (fun _ _ _ h => h) (Or.inl ⟨by rfl, ?_⟩) hHeld ?_
    rotate_left
    · intro wS hS; obtain ⟨hS1, hS2, hS3⟩ := hS; go_simp; (try with_reducible rfl)
    simp only [Act.put, List.setIfInBounds_toArray]
    refine wpAnyL_take (i := 1) (f0 := 12) (v := ?_) rfl (by decide +kernel) (by decide +kernel) (by decide +kernel) (by decide +kernel) (by decide +kernel) (fun _ _ _ h => h) (Or.inl ⟨by rfl, ?_⟩) hHeld ?_
    rotate_left
    · intro wS hS; obtain ⟨hS1, hS2, hS3⟩ := hS; go_simp; (try with_reducible rfl)
    simp only [Act.put]
    refine wpAnyL_take (i := 2) (f0 := 12) (v := ?_) rfl (by decide +kernel) (by decide +kernel) (by decide +kernel) (by decide +kernel) (by decide +kernel) (fun _ _ _ h => h) (Or.inl ⟨by rfl, ?_⟩) hHeld ?_
    rotate_left
    · intro wS hS; obtain ⟨hS1, hS2, hS3⟩ := hS; go_simp; (try with_reducible rfl)
    simp only [Act.put]
    refine wpAnyL_take (i := 3) (f0 := 12) (v := ?_) rfl (by decide +kernel) (by decide +kernel) (by decide +kernel) (by decide +kernel) (by decide +kernel) (fun _ _ _ h => h) (Or.inl ⟨by rfl, ?_⟩) hHeld ?_
    rotate_left
    · intro wS hS; obtain ⟨hS1, hS2, hS3⟩ := hS; go_simp; (try with_reducible rfl)
    simp only [Act.put]
    refine wpAnyL_take (i := 4) (f0 := 12) (v := ?_) rfl (by decide +kernel) (by decide +kernel) (by decide +kernel) (by decide +kernel) (by decide +kernel) (fun _ _ _ h => h) (Or.inl ⟨by rfl, ?_⟩) hHeld ?_
    rotate_left
    · intro wS hS; obtain ⟨hS1, hS2, hS3⟩ := hS; go_simp; (try with_reducible rfl)
    simp only [Act.put]
    refine wpAnyL_take (i := 6) (f0 := 12) (v := ?_) rfl (by decide +kernel) (by decide +kernel) (by decide +kernel) (by decide +kernel) (by decide +kernel) (fun _ _ _ h => h) (Or.inl ⟨by rfl, ?_⟩) hHeld ?_
    rotate_left
    · intro wS hS; obtain ⟨hS1, hS2, hS3⟩ := hS; go_simp; (try with_reducible rfl)
    simp only [Act.put]
    refine wpAnyL_one (i := 5) (by decide +kernel) (by rfl) (fun K hK => ?_)
    rw [if_pos (by rfl)]
    go_simp
    refine (start_any s i k hs (by omega) (by omega) S0 HS.out _ (heW.next (Below.refl _ _).drew)).mono ?_
    rintro e w1 ⟨rfl, hb1⟩
    have hs1 : W.heap.size ≤ w1.heap.size := hb1.size
    have hX : (fun W' : World => W'.cell? ⟨w.heap.size, 0, none⟩ = some (.string s) ∧ W'.cell? ⟨w.heap.size + 1, 0, none⟩ = some (.int .i64 (i : Int)) ∧ W'.cell? ⟨w.heap.size + 1 + 1 + 1, 1, none⟩ = some v) w1 := ⟨(hb1.cell (by simp <;> omega)).trans hHeld.1, (hb1.cell (by simp <;> omega)).trans hHeld.2.1, (hb1.cell (by simp <;> omega)).trans hHeld.2.2⟩
    clear hHeld
    have hHeld := hX; clear hX
    refine hK.out _ _ (Or.inr hHeld) ?_
    clear hK K
    try simp only [Act.put, List.setIfInBounds_toArray, List.set_cons_zero, List.set_cons_succ]
    refine wpAnyL_one (i := 7) (by decide +kernel) (by rfl) (fun K hK => ?_)
    rw [if_pos (by rfl)]
    go_simp
    refine (chain_of S0 d d hmin.out C0 HC.out (by omega) _).mono ?_
    rintro e w3 ⟨rfl, hb3⟩
    have hs3 := hb3.size
    have hX : (fun W' : World => W'.cell? ⟨w.heap.size, 0, none⟩ = some (.string s) ∧ W'.cell? ⟨w.heap.size + 1, 0, none⟩ = some (.int .i64 (i : Int)) ∧ W'.cell? ⟨w.heap.size + 1 + 1 + 1, 1, none⟩ = some v) w3 := ⟨(hb3.cell (by simp <;> omega)).trans hHeld.1, (hb3.cell (by simp <;> omega)).trans hHeld.2.1, (hb3.cell (by simp <;> omega)).trans hHeld.2.2⟩
    clear hHeld
    have hHeld := hX; clear hX
    refine hK.out _ _ (Or.inr hHeld) ?_
    clear hK K
    try simp only [Act.put, List.setIfInBounds_toArray, List.set_cons_zero, List.set_cons_succ]
    refine wpAnyL_one (i := 8) (by decide +kernel) (by rfl) (fun K hK => ?_)
    rw [if_pos (by rfl)]
    go_simp
    have hba : Below w3.heap.size w3 (w3.alloc (.cells #[.string C0] 9)) := (Below.refl _ _).alloc (Nat.le_refl _) _
    have hOa : OwnS (w3.alloc (.cells #[.string C0] 9)) (w.heap.size + 4) v (sigTo s i pre) := OwnV.alloc ((OwnS.below (w := W.drew) hO hb1).below hb3) _
    have hsa : (w3.alloc (.cells #[.string C0] 9)).heap.size = w3.heap.size + 1 := by simp
    have hSa := Strs.new w3 [C0] #[.string C0] 9 rfl
    have hfa : (w3.alloc (.cells #[.string C0] 9)).heap[w.heap.size + 3]? = some (.cells #[.int .i64 i, v, .slice none 0 0] 42 (0, 0)) := (hba.block _ (by omega)).trans ((hb3.block _ (by omega)).trans ((hb1.block _ (by simp <;> omega)).trans hv))
    have hX : (fun W' : World => W'.cell? ⟨w.heap.size, 0, none⟩ = some (.string s) ∧ W'.cell? ⟨w.heap.size + 1, 0, none⟩ = some (.int .i64 (i : Int)) ∧ W'.cell? ⟨w.heap.size + 1 + 1 + 1, 1, none⟩ = some v) (w3.alloc (.cells #[.string C0] 9)) := ⟨(hba.cell (by simp <;> omega)).trans hHeld.1, (hba.cell (by simp <;> omega)).trans hHeld.2.1, (hba.cell (by simp <;> omega)).trans hHeld.2.2⟩
    clear hHeld
    have hHeld := hX; clear hX
    refine hK.out _ _ (Or.inr hHeld) ?_
    generalize hwa : w3.alloc (.cells #[.string C0] 9) = wa at *
    clear hK K
    try simp only [Act.put, List.setIfInBounds_toArray, List.set_cons_zero, List.set_cons_succ]
    refine wpAnyL_one (i := 9) (by decide +kernel) (by rfl) (fun K hK => ?_)
    rw [if_pos (by rfl)]
    refine wp_ad (.tmp 37) (.tmp 44) (by rfl) (w.heap.size + 4) _ v (sigTo s i pre) [C0] (by rfl) hOa (some ⟨w3.heap.size, 0, none⟩) 1 1 rfl (by rfl) hSa (by rw [sigTo, List.length_map]; omega) (by omega) ?_
    intro v9 w9 hO9 hb9 hg9
    obtain ⟨g9, c9, rfl, hg9b, hg9l⟩ := OwnS.full hO9 (by simp)
    have hX : (fun W' : World => W'.cell? ⟨w.heap.size, 0, none⟩ = some (.string s) ∧ W'.cell? ⟨w.heap.size + 1, 0, none⟩ = some (.int .i64 (i : Int)) ∧ W'.cell? ⟨w.heap.size + 1 + 1 + 1, 1, none⟩ = some v) w9 := ⟨(hb9.cell (by simp <;> omega)).trans hHeld.1, (hb9.cell (by simp <;> omega)).trans hHeld.2.1, (hb9.cell (by simp <;> omega)).trans hHeld.2.2⟩
    clear hHeld
    have hHeld := hX; clear hX
    refine hK.out _ _ (Or.inr hHeld) ?_
    clear hK K
    try simp only [Act.put, List.setIfInBounds_toArray]
    refine wpAnyL_take (i := 10) (f0 := 12) (v := ?_) rfl (by decide +kernel) (by decide +kernel) (by decide +kernel) (by decide +kernel) (by decide +kernel) (fun _ _ _ h => h) (Or.inl ⟨by rfl, ?_⟩) hHeld ?_
    rotate_left
    · intro wS hS; obtain ⟨hS1, hS2, hS3⟩ := hS; go_simp; (try with_reducible rfl)
    simp only [Act.put]
    refine wpAnyL_one (i := 11) (by decide +kernel) (by rfl) (fun K hK => ?_)
    rw [if_pos (by rfl)]
    have hc9 : w9.cell? ⟨w.heap.size + 1 + 1 + 1, 1, none⟩ = some v := hHeld.2.2
    have hf9 : w9.frozen? ⟨w.heap.size + 1 + 1 + 1, 1, none⟩ = false := frozen_of_row _ _ _ _ _ ((hb9.block (w.heap.size + 3) (by omega)).trans hfa)
    clear hHeld
    go_simp
    refine hK.out _ _ (Or.inl (by decide +kernel)) ?_
    clear hK K
    try simp only [Act.put, List.setIfInBounds_toArray, List.set_cons_zero, List.set_cons_succ]
    refine wpAnyL_done (by decide +kernel) ?_ _
    gi_wp2
    have hbT : Below W.heap.size W wa := by
      subst hwa
      exact (bnext (below_undrew hb1) hb3).alloc (bnext (below_undrew hb1) hb3).size _
    have hf9 : w9.heap[w.heap.size + 3]? = some (.cells #[.int .i64 i, v, .slice none 0 0] 42 (0, 0)) := (hb9.block _ (by omega)).trans hfa
    refine ⟨((keeps_below hbT).trans ((keeps_own hOa hg9).trans (KeepsOthers.setCell _ _ _))).from _, trivial, ?_⟩
    have hR := SignInv.round hB ((hbT.mono (by omega)).trans (hb9.mono (by omega))) (by omega) hf9 hO9
    have e : sigTo s i (pre ++ [⟨(k, d), ⟨hk, hd⟩⟩]) = sigTo s i pre ++ [C0] := by
      rw [sigTo_snoc]
      show sigTo s i pre ++ [Dg.chainB (Dg.startB s i k) d] = _
      rw [HS.out, HC.out]
    rw [show (sigTo s i pre ++ [C0]).length = (sigTo s i pre).length + 1 from by simp] at hR
    show SignInv w2 (w.heap.size + 3) (w.heap.size + 4) i (sigTo s i (pre ++ [⟨(k, d), ⟨hk, hd⟩⟩])) _
    rw [e]
    exact hR
  case done =>
    rintro D xs W hD hxs ⟨⟨v, hv, hO⟩, hB⟩ hK
    rw [sigTo_all s i m xs hxs] at hO
    have hsl := Dg.sigB_len s i m
    obtain ⟨Av, cv, rfl, hcv, hSv⟩ := hO.strs
    rw [hsl] at hv hcv
    have hsl' := hide hsl; clear hsl
    have hcs : W.cell? ⟨w.heap.size, 0, none⟩ = some (.string s) := by rw [hB.cell (p := ⟨w.heap.size, 0, none⟩) (by show w.heap.size < _; omega), cell_of_row _ _ _ _ _ (0, 0) q3]; rfl
    have hci : W.cell? ⟨w.heap.size + 1, 0, none⟩ = some (.int .i64 (i : Int)) := by rw [hB.cell (p := ⟨w.heap.size + 1, 0, none⟩) (by show w.heap.size + 1 < _; omega), cell_of_row _ _ _ _ _ (0, 0) q4]; rfl
    have hlB : w.heap.size + 3 < W.heap.size := (Array.getElem?_eq_some_iff.1 hv).1
    have heW : Env W := he.next (q2.trans (hB.mono (by omega)))
    have hmx : Tryz.prog.follows .mixedOrders = true := by kernel_rfl
    have hkl := Dg.keysB_len s h
    have hks := Dg.keysB_size s h
    rw [hn] at hkl
    have HP := hide (show Dg.sealPath s h i = Dg.path (Dg.keysB s h) i from rfl)
    have HKS := hide hks; clear hks
    have hkl' := hide hkl; clear hkl
    go_wp2
    have hHeld : (fun W' : World => W'.cell? ⟨w.heap.size, 0, none⟩ = some (.string s) ∧ W'.cell? ⟨w.heap.size + 1, 0, none⟩ = some (.int .i64 (i : Int))) W.drew := ⟨hcs, hci⟩
    refine wp_region_noPanic ?_
    refine wp_region_L (fun W' : World => W'.cell? ⟨w.heap.size, 0, none⟩ = some (.string s) ∧ W'.cell? ⟨w.heap.size + 1, 0, none⟩ = some (.int .i64 (i : Int))) 10 hmx ?_
    refine wpAnyL_take (i := 0) (f0 := 12) (v := ?_) rfl (by decide +kernel) (by decide +kernel) (by decide +kernel) (by decide +kernel) (by decide +kernel) (fun _ _ _ h => h) (Or.inl ⟨by rfl, ?_⟩) hHeld ?_
    rotate_left
    · intro wS hS; obtain ⟨hS1, hS2⟩ := hS; go_simp; (try with_reducible rfl)
    simp only [Act.put, List.setIfInBounds_toArray]
    refine wpAnyL_take (i := 1) (f0 := 12) (v := ?_) rfl (by decide +kernel) (by decide +kernel) (by decide +kernel) (by decide +kernel) (by decide +kernel) (fun _ _ _ h => h) (Or.inl ⟨by rfl, ?_⟩) hHeld ?_
    rotate_left
    · intro wS hS; obtain ⟨hS1, hS2⟩ := hS; go_simp; (try with_reducible rfl)
    simp only [Act.put]
    refine wpAnyL_take (i := 3) (f0 := 12) (v := ?_) rfl (by decide +kernel) (by decide +kernel) (by decide +kernel) (by decide +kernel) (by decide +kernel) (fun _ _ _ h => h) (Or.inl ⟨by rfl, ?_⟩) hHeld ?_
    rotate_left
    · intro wS hS; obtain ⟨hS1, hS2⟩ := hS; go_simp; (try with_reducible rfl)
    simp only [Act.put]
    refine wpAnyL_one (i := 2) (by decide +kernel) (by rfl) (fun K hK0 => ?_)
    rw [if_pos (by rfl)]
    go_simp
    refine (keys_any s h hs hh _ (heW.next (Below.refl _ _).drew)).mono ?_
    rintro e w1 ⟨vk, rfl, hOk, hb1⟩
    obtain ⟨Ak, ck, rfl, hck, hSk⟩ := hOk.strs
    rw [hkl'.out] at hck ⊢
    have hs1 : W.heap.size ≤ w1.heap.size := hb1.size
    have hX : (fun W' : World => W'.cell? ⟨w.heap.size, 0, none⟩ = some (.string s) ∧ W'.cell? ⟨w.heap.size + 1, 0, none⟩ = some (.int .i64 (i : Int))) w1 := ⟨(hb1.cell (by simp <;> omega)).trans hHeld.1, (hb1.cell (by simp <;> omega)).trans hHeld.2⟩
    clear hHeld
    have hHeld := hX; clear hX
    refine hK0.out _ _ (Or.inr hHeld) ?_
    clear hK0 K
    try simp only [Act.put, List.setIfInBounds_toArray, List.set_cons_zero, List.set_cons_succ]
    refine wpAnyL_one (i := 4) (by decide +kernel) (by rfl) (fun K hK0 => ?_)
    rw [if_pos (by rfl)]
    go_simp
    refine (path_any Ak ck n (Dg.keysB s h) i w1 hkl'.out (heW.next (below_undrew hb1)) hck (by omega) (fun x hx => by rw [HKS.out x hx]; decide) hSk hi).mono ?_
    rintro e w3 ⟨Ap, cp, np, rfl, hpl, hpc, hSp, hb3⟩
    have hs3 := hb3.size
    have hX : (fun W' : World => W'.cell? ⟨w.heap.size, 0, none⟩ = some (.string s) ∧ W'.cell? ⟨w.heap.size + 1, 0, none⟩ = some (.int .i64 (i : Int))) w3 := ⟨(hb3.cell (by simp <;> omega)).trans hHeld.1, (hb3.cell (by simp <;> omega)).trans hHeld.2⟩
    clear hHeld
    have hHeld := hX; clear hX
    refine hK0.out _ _ (Or.inr hHeld) ?_
    clear hK0 K
    try simp only [Act.put, List.setIfInBounds_toArray, List.set_cons_zero, List.set_cons_succ]
    refine wpAnyL_take (i := 5) (f0 := 12) (v := ?_) rfl (by decide +kernel) (by decide +kernel) (by decide +kernel) (by decide +kernel) (by decide +kernel) (fun _ _ _ h => h) (Or.inl ⟨by rfl, ?_⟩) hHeld ?_
    rotate_left
    · intro wS hS; obtain ⟨hS1, hS2⟩ := hS; go_simp; (try with_reducible rfl)
    simp only [Act.put, List.setIfInBounds_toArray]
    refine wpAnyL_take (i := 6) (f0 := 12) (v := ?_) rfl (by decide +kernel) (by decide +kernel) (by decide +kernel) (by decide +kernel) (by decide +kernel) (fun _ _ _ h => h) (Or.inl ⟨by rfl, ?_⟩) hHeld ?_
    rotate_left
    · intro wS hS; obtain ⟨hS1, hS2⟩ := hS; go_simp; (try with_reducible rfl)
    simp only [Act.put]
    refine wpAnyL_take (i := 7) (f0 := 12) (v := ?_) rfl (by decide +kernel) (by decide +kernel) (by decide +kernel) (by decide +kernel) (by decide +kernel) (fun _ _ _ h => h) (Or.inl ⟨by rfl, ?_⟩) hHeld ?_
    rotate_left
    · intro wS hS; obtain ⟨hS1, hS2⟩ := hS; go_simp; (try with_reducible rfl)
    simp only [Act.put]
    refine wpAnyL_take (i := 8) (f0 := 12) (v := ?_) rfl (by decide +kernel) (by decide +kernel) (by decide +kernel) (by decide +kernel) (by decide +kernel) (fun _ _ _ h => h) (Or.inl ⟨by rfl, ?_⟩) hHeld ?_
    rotate_left
    · intro wS hS; obtain ⟨hS1, hS2⟩ := hS; go_simp; (try with_reducible rfl)
    simp only [Act.put]
    refine wpAnyL_one (i := 9) (by decide +kernel) (by rfl) (fun K hK0 => ?_)
    rw [if_pos (by rfl)]
    have hf3 : w3.heap[w.heap.size + 3]? = some (.cells #[.int .i64 i, .slice Av 18 cv, .slice none 0 0] 42 (0, 0)) := (hb3.block _ (by omega)).trans ((hb1.block _ (by simp; omega)).trans hv)
    have hc0 : w3.cell? ⟨w.heap.size + 1 + 1 + 1, 0, none⟩ = some (.int .i64 i) := by show w3.cell? ⟨w.heap.size + 3, 0, none⟩ = _; rw [cell_of_row _ _ _ _ _ (0, 0) hf3]; rfl
    have hc1 : w3.cell? ⟨w.heap.size + 1 + 1 + 1, 1, none⟩ = some (.slice Av 18 cv) := by show w3.cell? ⟨w.heap.size + 3, 1, none⟩ = _; rw [cell_of_row _ _ _ _ _ (0, 0) hf3]; rfl
    have hc2 : w3.cell? ⟨w.heap.size + 1 + 1 + 1, 2, none⟩ = some (.slice none 0 0) := by show w3.cell? ⟨w.heap.size + 3, 2, none⟩ = _; rw [cell_of_row _ _ _ _ _ (0, 0) hf3]; rfl
    have hz2 : w3.frozen? ⟨w.heap.size + 1 + 1 + 1, 2, none⟩ = false := frozen_of_row _ _ _ _ _ hf3
    have hr3 : w3.heap[w.heap.size + 2]? = some (.cells #[.int .i64 0, .slice none 0 0, .slice none 0 0] 42 (0, 0)) := (hb3.block _ (by omega)).trans ((hb1.block _ (by simp; omega)).trans ((hB.block _ (by omega)).trans q5))
    have hr0 : w3.cell? ⟨w.heap.size + 1 + 1, 0, none⟩ = some (.int .i64 0) := by show w3.cell? ⟨w.heap.size + 2, 0, none⟩ = _; rw [cell_of_row _ _ _ _ _ (0, 0) hr3]; rfl
    have hr1 : w3.cell? ⟨w.heap.size + 1 + 1, 1, none⟩ = some (.slice none 0 0) := by show w3.cell? ⟨w.heap.size + 2, 1, none⟩ = _; rw [cell_of_row _ _ _ _ _ (0, 0) hr3]; rfl
    have hr2 : w3.cell? ⟨w.heap.size + 1 + 1, 2, none⟩ = some (.slice none 0 0) := by show w3.cell? ⟨w.heap.size + 2, 2, none⟩ = _; rw [cell_of_row _ _ _ _ _ (0, 0) hr3]; rfl
    have hrz : ∀ j, w3.frozen? ⟨w.heap.size + 1 + 1, j, none⟩ = false := fun j => frozen_of_row _ _ _ _ _ hr3
    have hrz0 := hrz 0
    have hrz1 := hrz 1
    have hrz2 := hrz 2
    clear hrz
    go_simp
    refine hK0.out _ _ (Or.inr ⟨(World.cell?_setCell_far _ _ _ _ (by simp <;> omega)).trans hHeld.1, (World.cell?_setCell_far _ _ _ _ (by simp <;> omega)).trans hHeld.2⟩) ?_
    clear hK0 K
    try simp only [Act.put, List.setIfInBounds_toArray, List.set_cons_zero, List.set_cons_succ]
    refine wpAnyL_done (by decide +kernel) ?_ _
    refine NoPanic.normal ?_
    go_wp2
    have hDW : D < W.heap.size := (Array.getElem?_eq_some_iff.1 hK).1
    have hK3 : w3.heap[D]? = some (.deferred (some [])) := (hb3.block D (by omega)).trans ((hb1.block D (by simp; omega)).trans hK)
    refine ⟨by simp, .inl ⟨_, _, rfl, run_takeDeferred (ds := []) ?hKD, ?post⟩⟩
    case hKD =>
      rw [heap_setCell_other _ _ _ _ (by simp; omega), heap_setCell_other _ _ _ _ (by simp; omega), heap_setCell_other _ _ _ _ (by simp; omega), heap_setCell_other _ _ _ _ (by simp; omega)]
      exact hK3
    case post =>
      obtain rfl : np = h := hpl.symm.trans hpl0.out
      obtain ⟨f1, f2, f3, f4⟩ := sign_end (w := w) (q := Dg.path (Dg.keysB s np) i) (l := Dg.sigB s i m) (Av := Av) (Ap := Ap) (ns := 18) (cv := cv) (np := np) (cp := cp) (i := i) (D := D) (by omega) hK3 hr3 hf3 (by rw [← hsl'.out]; exact (((OwnS.below (w := W.drew) (hsl'.out.symm ▸ hO) hb1).below hb3))) hSp (q2.trans ((hB.mono (by omega)).trans (((below_undrew hb1).mono (by simp; omega)).trans (hb3.mono (by omega))))) _ rfl
      show LeavesInM _ _ _ _ _ _ _ _ (((((w3.setCell ⟨w.heap.size + 3, 2, none⟩ (.slice Ap np cp)).setCell ⟨w.heap.size + 2, 0, none⟩ (.int .i64 i)).setCell ⟨w.heap.size + 2, 1, none⟩ (.slice Av 18 cv)).setCell ⟨w.heap.size + 2, 2, none⟩ (.slice Ap np cp)).putObj D (.deferred none))
      generalize (((((w3.setCell ⟨w.heap.size + 3, 2, none⟩ (.slice Ap np cp)).setCell ⟨w.heap.size + 2, 0, none⟩ (.int .i64 i)).setCell ⟨w.heap.size + 2, 1, none⟩ (.slice Av 18 cv)).setCell ⟨w.heap.size + 2, 2, none⟩ (.slice Ap np cp)).putObj D (.deferred none)) = F at *
      have g0 : F.cell? ⟨w.heap.size + 1 + 1, 0, none⟩ = some (.int .i64 i) := by show F.cell? ⟨w.heap.size + 2, 0, none⟩ = _; rw [cell_of_row _ _ _ _ _ (0, 0) f1]; rfl
      have g1 : F.cell? ⟨w.heap.size + 1 + 1, 1, none⟩ = some (.slice Av 18 cv) := by show F.cell? ⟨w.heap.size + 2, 1, none⟩ = _; rw [cell_of_row _ _ _ _ _ (0, 0) f1]; rfl
      have g2 : F.cell? ⟨w.heap.size + 1 + 1, 2, none⟩ = some (.slice Ap np cp) := by show F.cell? ⟨w.heap.size + 2, 2, none⟩ = _; rw [cell_of_row _ _ _ _ _ (0, 0) f1]; rfl
      refine ⟨.tuple #[.agg #[.int .i64 i, .slice Av 18 cv, .slice Ap np cp], .int .i64 0], ?_, Av, cv, Ap, cp, rfl, hcv, hpc, f2, f3, f4⟩
      simp [results, Tryz.results57, go_sem, g0, g1, g2]
  case stop =>
    rintro D c pre W _ _ h _
    exact h.elim
end Go.Proofs.YtobhpeockinnjaaGreatDoor
/- Sign where it hands back an error; Verify where it says no before its loop. -/
namespace Go.Proofs.YtobhpeockinnjaaGreatDoor
open Go Go.RowKit Go.Sort
theorem pow_wrapK (h n : Nat) (hn : 2 ^ h = n) (hh : h ≤ 62) : IntKind.i64.wrap (2 ^ h) = (n : Int) := by
  have := Nat.pow_le_pow_right (n := 2) (by omega) hh
  have h2 : 2 ^ 62 = 4611686018427387904 := by decide
  rw [show (2 : Int) ^ h = (n : Int) by rw [← hn]; push_cast; rfl, IntWalk.i64_in _ (by omega)]
/-- The cells of the seal that Verify reads, behind whatever calls. -/
theorem seal_cells (w : World) (a b c : Value) (d : Nat) (os : Array Obj) :
    (grow (redrawn (w.alloc (.cells #[a, b, c] 42)) d) os).cell? ⟨w.heap.size, 0, none⟩ = some a ∧ (grow (redrawn (w.alloc (.cells #[a, b, c] 42)) d) os).cell? ⟨w.heap.size, 1, none⟩ = some b ∧ (grow (redrawn (w.alloc (.cells #[a, b, c] 42)) d) os).cell? ⟨w.heap.size, 2, none⟩ = some c := by
  have hb := below_regrown (w.alloc (.cells #[a, b, c] 42)) d os
  have hr := heap_alloc_new w (.cells #[a, b, c] 42)
  refine ⟨?_, ?_, ?_⟩ <;> (rw [hb.cell (by simp), cell_of_row _ _ _ _ _ (0, 0) hr]; rfl)
set_option maxRecDepth 100000 in
set_option maxHeartbeats 1000000 in
theorem verify_a (p m : ByteArray) (i : Int) (A A' : Option Addr) (n n' c c' : Nat) (w : World) (hn : n ≠ 18) :
    Calls Tryz.prog 38 #[.string p, .string m, .agg #[.int .i64 i, .slice A n c, .slice A' n' c']] w fun e w' => e = .returned (.bool false) ∧ Below w.heap.size w w' := by
  have e1 : ((n : Int) == 18) = false := by simp; omega
  have e2 : ((n : Int) != 18) = true := by simp; omega
  have e3 : decide (n = 18) = false := decide_eq_false hn
  go_enter Tryz.func38, Tryz.ntmps38
  go_wp2
  go_quiet (fail)
  go_wp2
  go_ret
  exact ⟨rfl, below_drewN ((Below.refl _ _).alloc (Nat.le_refl _) _) _⟩
set_option maxRecDepth 100000 in
set_option maxHeartbeats 1000000 in
theorem verify_b (p m : ByteArray) (i : Int) (A A' : Option Addr) (n' c c' : Nat) (w : World) (hn : 8 < n') :
    Calls Tryz.prog 38 #[.string p, .string m, .agg #[.int .i64 i, .slice A 18 c, .slice A' n' c']] w fun e w' => e = .returned (.bool false) ∧ Below w.heap.size w w' := by
  have d2 : decide (8 < (n' : Int)) = true := decide_eq_true (by omega)
  have d3 : decide (8 < n') = true := decide_eq_true hn
  go_enter Tryz.func38, Tryz.ntmps38
  go_wp2
  go_quiet (fail)
  go_wp2
  go_ret
  exact ⟨rfl, below_drewN ((Below.refl _ _).alloc (Nat.le_refl _) _) _⟩
set_option maxRecDepth 100000 in
set_option maxHeartbeats 1000000 in
theorem verify_c (p m : ByteArray) (i : Int) (A A' : Option Addr) (n' c c' : Nat) (sig : List ByteArray) (w : World) (hn : n' ≤ 8) (hl : sig.length = 18) (hz : ∀ s ∈ sig, s.size ≤ 4611686018427387904) (hS : Strs w w.heap.size A sig) (hd : allDig sig = false) :
    Calls Tryz.prog 38 #[.string p, .string m, .agg #[.int .i64 i, .slice A 18 c, .slice A' n' c']] w fun e w' => e = .returned (.bool false) ∧ Below w.heap.size w w' := by
  have hz := hide hz
  have d2 : decide (8 < (n' : Int)) = false := decide_eq_false (by omega)
  have d3 : decide (8 < n') = false := decide_eq_false (by omega)
  have hl' := hide hl; clear hl
  have hd' := hide hd; clear hd
  go_enter Tryz.func38, Tryz.ntmps38
  go_wp2
  have hS1 : Strs (w.alloc (.cells #[.int .i64 i, .slice A 18 c, .slice A' n' c'] 42)) (w.alloc (.cells #[.int .i64 i, .slice A 18 c, .slice A' n' c'] 42)).heap.size A sig := keepS hS (Below.news (Below.refl _ _) _)
  have q1 := fun (d : Nat) (os : Array Obj) => Calls.regrown_of (odd_any A c 18 sig false hd'.out (grow (redrawn (w.alloc (.cells #[.int .i64 i, .slice A 18 c, .slice A' n' c'] 42)) d) os) hl'.out (by omega) hz.out (keepS hS1 (below_regrown _ d os)))
  have Q1 := hide q1; clear q1
  have g0 := fun d os => (seal_cells w (.int .i64 i) (.slice A 18 c) (.slice A' n' c') d os).1
  have g1 := fun d os => (seal_cells w (.int .i64 i) (.slice A 18 c) (.slice A' n' c') d os).2.1
  have g2 := fun d os => (seal_cells w (.int .i64 i) (.slice A 18 c) (.slice A' n' c') d os).2.2
  refine wp_region_quiet_below (by kernel_rfl) (by decide +kernel) ?_
  repeat (first | go_big_quiet_step (fail) | quiet_step (fail))
  (first | go_big_quiet_step (exact Q1.out _ _) | quiet_step (exact Q1.out _ _))
  repeat (first | go_big_quiet_step (fail) | quiet_step (fail))
  refine wpQuiet_nil ?_
  intro _ hw'
  obtain ⟨⟨dq, osq⟩, hw''⟩ := hw'
  subst hw''
  go_wp2
  go_ret
  exact ⟨rfl, bnextA (Below.refl _ _) (below_regrown _ dq osq)⟩
set_option maxRecDepth 100000 in
set_option maxHeartbeats 1000000 in
theorem verify_d (p m : ByteArray) (i : Int) (A A' : Option Addr) (n' c c' : Nat) (sig path : List ByteArray) (w : World) (hn : n' ≤ 8) (hl : sig.length = 18) (hz : ∀ s ∈ sig, s.size ≤ 4611686018427387904) (hS : Strs w w.heap.size A sig) (hd : allDig sig = true)
    (hl2 : path.length = n') (hz2 : ∀ s ∈ path, s.size ≤ 4611686018427387904) (hS2 : Strs w w.heap.size A' path) (hd2 : allDig path = false) :
    Calls Tryz.prog 38 #[.string p, .string m, .agg #[.int .i64 i, .slice A 18 c, .slice A' n' c']] w fun e w' => e = .returned (.bool false) ∧ Below w.heap.size w w' := by
  have hz := hide hz
  have hz2 := hide hz2
  have d2 : decide (8 < (n' : Int)) = false := decide_eq_false (by omega)
  have d3 : decide (8 < n') = false := decide_eq_false (by omega)
  have hl' := hide hl; clear hl
  have hd' := hide hd; clear hd
  have hl2' := hide hl2; clear hl2
  have hd2' := hide hd2; clear hd2
  go_enter Tryz.func38, Tryz.ntmps38
  go_wp2
  have hS1 : Strs (w.alloc (.cells #[.int .i64 i, .slice A 18 c, .slice A' n' c'] 42)) (w.alloc (.cells #[.int .i64 i, .slice A 18 c, .slice A' n' c'] 42)).heap.size A sig := keepS hS (Below.news (Below.refl _ _) _)
  have hS3 : Strs (w.alloc (.cells #[.int .i64 i, .slice A 18 c, .slice A' n' c'] 42)) (w.alloc (.cells #[.int .i64 i, .slice A 18 c, .slice A' n' c'] 42)).heap.size A' path := keepS hS2 (Below.news (Below.refl _ _) _)
  have q1 := fun (d : Nat) (os : Array Obj) => Calls.regrown_of (odd_any A c 18 sig true hd'.out (grow (redrawn (w.alloc (.cells #[.int .i64 i, .slice A 18 c, .slice A' n' c'] 42)) d) os) hl'.out (by omega) hz.out (keepS hS1 (below_regrown _ d os)))
  have q2 := fun (d : Nat) (os : Array Obj) => Calls.regrown_of (odd_any A' c' n' path false hd2'.out (grow (redrawn (w.alloc (.cells #[.int .i64 i, .slice A 18 c, .slice A' n' c'] 42)) d) os) hl2'.out (by omega) hz2.out (keepS hS3 (below_regrown _ d os)))
  have Q1 := hide q1; have Q2 := hide q2; clear q1 q2
  have g0 := fun d os => (seal_cells w (.int .i64 i) (.slice A 18 c) (.slice A' n' c') d os).1
  have g1 := fun d os => (seal_cells w (.int .i64 i) (.slice A 18 c) (.slice A' n' c') d os).2.1
  have g2 := fun d os => (seal_cells w (.int .i64 i) (.slice A 18 c) (.slice A' n' c') d os).2.2
  refine wp_region_quiet_below (by kernel_rfl) (by decide +kernel) ?_
  repeat (first | go_big_quiet_step (fail) | quiet_step (fail))
  (first | go_big_quiet_step (exact Q1.out _ _) | quiet_step (exact Q1.out _ _))
  repeat (first | go_big_quiet_step (fail) | quiet_step (fail))
  (first | go_big_quiet_step (exact Q2.out _ _) | quiet_step (exact Q2.out _ _))
  repeat (first | go_big_quiet_step (fail) | quiet_step (fail))
  refine wpQuiet_nil ?_
  intro _ hw'
  obtain ⟨⟨dq, osq⟩, hw''⟩ := hw'
  subst hw''
  go_wp2
  go_ret
  exact ⟨rfl, bnextA (Below.refl _ _) (below_regrown _ dq osq)⟩
set_option maxRecDepth 100000 in
set_option maxHeartbeats 1000000 in
theorem verify_e (p m : ByteArray) (i : Int) (A A' : Option Addr) (n' c c' : Nat) (sig path : List ByteArray) (w : World) (hn : n' ≤ 8) (hl : sig.length = 18) (hz : ∀ s ∈ sig, s.size ≤ 4611686018427387904) (hS : Strs w w.heap.size A sig) (hd : allDig sig = true)
    (hl2 : path.length = n') (hz2 : ∀ s ∈ path, s.size ≤ 4611686018427387904) (hS2 : Strs w w.heap.size A' path) (hd2 : allDig path = true) (hi : i < 0) :
    Calls Tryz.prog 38 #[.string p, .string m, .agg #[.int .i64 i, .slice A 18 c, .slice A' n' c']] w fun e w' => e = .returned (.bool false) ∧ Below w.heap.size w w' := by
  have hz := hide hz
  have hz2 := hide hz2
  have d2 : decide (8 < (n' : Int)) = false := decide_eq_false (by omega)
  have d3 : decide (8 < n') = false := decide_eq_false (by omega)
  have d4 : decide (i < 0) = true := decide_eq_true hi
  have hl' := hide hl; clear hl
  have hd' := hide hd; clear hd
  have hl2' := hide hl2; clear hl2
  have hd2' := hide hd2; clear hd2
  go_enter Tryz.func38, Tryz.ntmps38
  go_wp2
  have hS1 : Strs (w.alloc (.cells #[.int .i64 i, .slice A 18 c, .slice A' n' c'] 42)) (w.alloc (.cells #[.int .i64 i, .slice A 18 c, .slice A' n' c'] 42)).heap.size A sig := keepS hS (Below.news (Below.refl _ _) _)
  have hS3 : Strs (w.alloc (.cells #[.int .i64 i, .slice A 18 c, .slice A' n' c'] 42)) (w.alloc (.cells #[.int .i64 i, .slice A 18 c, .slice A' n' c'] 42)).heap.size A' path := keepS hS2 (Below.news (Below.refl _ _) _)
  have q1 := fun (d : Nat) (os : Array Obj) => Calls.regrown_of (odd_any A c 18 sig true hd'.out (grow (redrawn (w.alloc (.cells #[.int .i64 i, .slice A 18 c, .slice A' n' c'] 42)) d) os) hl'.out (by omega) hz.out (keepS hS1 (below_regrown _ d os)))
  have q2 := fun (d : Nat) (os : Array Obj) => Calls.regrown_of (odd_any A' c' n' path true hd2'.out (grow (redrawn (w.alloc (.cells #[.int .i64 i, .slice A 18 c, .slice A' n' c'] 42)) d) os) hl2'.out (by omega) hz2.out (keepS hS3 (below_regrown _ d os)))
  have Q1 := hide q1; have Q2 := hide q2; clear q1 q2
  have g0 := fun d os => (seal_cells w (.int .i64 i) (.slice A 18 c) (.slice A' n' c') d os).1
  have g1 := fun d os => (seal_cells w (.int .i64 i) (.slice A 18 c) (.slice A' n' c') d os).2.1
  have g2 := fun d os => (seal_cells w (.int .i64 i) (.slice A 18 c) (.slice A' n' c') d os).2.2
  refine wp_region_quiet_below (by kernel_rfl) (by decide +kernel) ?_
  repeat (first | go_big_quiet_step (fail) | quiet_step (fail))
  (first | go_big_quiet_step (exact Q1.out _ _) | quiet_step (exact Q1.out _ _))
  repeat (first | go_big_quiet_step (fail) | quiet_step (fail))
  (first | go_big_quiet_step (exact Q2.out _ _) | quiet_step (exact Q2.out _ _))
  repeat (first | go_big_quiet_step (fail) | quiet_step (fail))
  refine wpQuiet_nil ?_
  intro _ hw'
  obtain ⟨⟨dq, osq⟩, hw''⟩ := hw'
  subst hw''
  go_wp2
  go_ret
  exact ⟨rfl, bnextA (Below.refl _ _) (below_regrown _ dq osq)⟩
set_option maxRecDepth 100000 in
set_option maxHeartbeats 1000000 in
theorem verify_f (p m : ByteArray) (i : Int) (A A' : Option Addr) (n' c c' : Nat) (sig path : List ByteArray) (w : World) (hn : n' ≤ 8) (hl : sig.length = 18) (hz : ∀ s ∈ sig, s.size ≤ 4611686018427387904) (hS : Strs w w.heap.size A sig) (hd : allDig sig = true)
    (hl2 : path.length = n') (hz2 : ∀ s ∈ path, s.size ≤ 4611686018427387904) (hS2 : Strs w w.heap.size A' path) (hd2 : allDig path = true) (N : Nat) (hN : 2 ^ n' = N) (hi : (N : Int) ≤ i) :
    Calls Tryz.prog 38 #[.string p, .string m, .agg #[.int .i64 i, .slice A 18 c, .slice A' n' c']] w fun e w' => e = .returned (.bool false) ∧ Below w.heap.size w w' := by
  have hz := hide hz
  have hz2 := hide hz2
  have d2 : decide (8 < (n' : Int)) = false := decide_eq_false (by omega)
  have d3 : decide (8 < n') = false := decide_eq_false (by omega)
  have hi0 : 0 ≤ i := by omega
  have d4 : decide (i < 0) = false := decide_eq_false (by omega)
  have d5 : decide ((N : Int) ≤ i) = true := decide_eq_true hi
  have hw := pow_wrap n' N hN (by omega)
  have hw2 := pow_wrapK n' N hN (by omega)
  clear hN
  have hl' := hide hl; clear hl
  have hd' := hide hd; clear hd
  have hl2' := hide hl2; clear hl2
  have hd2' := hide hd2; clear hd2
  go_enter Tryz.func38, Tryz.ntmps38
  go_wp2
  have hS1 : Strs (w.alloc (.cells #[.int .i64 i, .slice A 18 c, .slice A' n' c'] 42)) (w.alloc (.cells #[.int .i64 i, .slice A 18 c, .slice A' n' c'] 42)).heap.size A sig := keepS hS (Below.news (Below.refl _ _) _)
  have hS3 : Strs (w.alloc (.cells #[.int .i64 i, .slice A 18 c, .slice A' n' c'] 42)) (w.alloc (.cells #[.int .i64 i, .slice A 18 c, .slice A' n' c'] 42)).heap.size A' path := keepS hS2 (Below.news (Below.refl _ _) _)
  have q1 := fun (d : Nat) (os : Array Obj) => Calls.regrown_of (odd_any A c 18 sig true hd'.out (grow (redrawn (w.alloc (.cells #[.int .i64 i, .slice A 18 c, .slice A' n' c'] 42)) d) os) hl'.out (by omega) hz.out (keepS hS1 (below_regrown _ d os)))
  have q2 := fun (d : Nat) (os : Array Obj) => Calls.regrown_of (odd_any A' c' n' path true hd2'.out (grow (redrawn (w.alloc (.cells #[.int .i64 i, .slice A 18 c, .slice A' n' c'] 42)) d) os) hl2'.out (by omega) hz2.out (keepS hS3 (below_regrown _ d os)))
  have Q1 := hide q1; have Q2 := hide q2; clear q1 q2
  have g0 := fun d os => (seal_cells w (.int .i64 i) (.slice A 18 c) (.slice A' n' c') d os).1
  have g1 := fun d os => (seal_cells w (.int .i64 i) (.slice A 18 c) (.slice A' n' c') d os).2.1
  have g2 := fun d os => (seal_cells w (.int .i64 i) (.slice A 18 c) (.slice A' n' c') d os).2.2
  refine wp_region_quiet_below (by kernel_rfl) (by decide +kernel) ?_
  repeat (first | go_big_quiet_step (fail) | quiet_step (fail))
  (first | go_big_quiet_step (exact Q1.out _ _) | quiet_step (exact Q1.out _ _))
  repeat (first | go_big_quiet_step (fail) | quiet_step (fail))
  (first | go_big_quiet_step (exact Q2.out _ _) | quiet_step (exact Q2.out _ _))
  repeat (first | go_big_quiet_step (fail) | quiet_step (fail))
  refine wpQuiet_nil ?_
  intro _ hw'
  obtain ⟨⟨dq, osq⟩, hw''⟩ := hw'
  subst hw''
  go_wp2
  go_ret
  exact ⟨rfl, bnextA (Below.refl _ _) (below_regrown _ dq osq)⟩
end Go.Proofs.YtobhpeockinnjaaGreatDoor
/- Verify of package seal, walked to its end. -/
namespace Go.Proofs.YtobhpeockinnjaaGreatDoor
open Go Go.RowKit Go.Sort
attribute [local go_sem] Oper.semAt_some
/-- The ends of the chains as far as the digits go. -/
def endTo (sig : List ByteArray) (pre : List DigP) : List ByteArray := pre.map fun x => Dg.chainB (sig.getD x.1.1 ⟨#[]⟩) (15 - x.1.2)
theorem endTo_snoc (sig : List ByteArray) (pre : List DigP) (x : DigP) : endTo sig (pre ++ [x]) = endTo sig pre ++ [Dg.chainB (sig.getD x.1.1 ⟨#[]⟩) (15 - x.1.2)] := by unfold endTo; rw [List.map_append]; rfl
theorem endTo_all (m : ByteArray) (sig : List ByteArray) (xs : List DigP) (h : xs.map Subtype.val = digTo m 18) : endTo sig xs = Dg.endsB m sig := by
  have : endTo sig xs = (xs.map Subtype.val).map fun x => Dg.chainB (sig.getD x.1 ⟨#[]⟩) (15 - x.2) := by unfold endTo; rw [List.map_map]; rfl
  rw [this, h]
  unfold digTo Dg.endsB
  rw [List.map_map]
  rfl
/-- What the loop of Verify keeps: the ends lie in box G, their texts are the call's own; what lay below G lies on. -/
def VerInv (w0 : World) (G : Nat) (l : List ByteArray) (W : World) : Prop :=
  (∃ v, W.heap[G]? = some (.cells #[v] 27 (0, 0)) ∧ OwnS W (G + 1) v l) ∧ Below G w0 W
theorem VerInv.own (w0 : World) (G : Nat) (f : List DigP → List ByteArray) (B : Nat) (hB : G < B) : OwnFrom B (fun pre W => VerInv w0 G (f pre) W) := by
  rintro pre W W' row ⟨⟨v, h1, h2⟩, h3⟩ hg hr
  have hbl := (Array.getElem?_eq_some_iff.1 h1).1
  have hne : ∀ k (o : Obj), W.heap[k]? = some o → o.isCells = true → some k ≠ row := fun k o hk ho e => by
    obtain ⟨_, o', h4, h5⟩ := hr k e.symm
    rw [hk] at h4; cases h4; rw [ho] at h5; exact Bool.noConfusion h5
  refine ⟨⟨v, (hg.block G hbl (hne G _ h1 rfl)).trans h1, ?_⟩, ?_⟩
  · refine World.ownsRow.kept h2 hg ?_
    rcases h2.2 with ⟨rfl, _⟩ | ⟨g, cap, cur, rfl, _, hgb, _⟩
    · exact .inl rfl
    · exact .inr fun e => hne g _ hgb rfl (by simpa [Value.ownBlock] using e)
  · refine ⟨hg.os.trans h3.os, hg.tape.trans h3.tape, hg.output.trans h3.output, Nat.le_trans h3.size hg.size, fun k hk => ?_⟩
    refine (hg.block k (by omega) (fun e => ?_)).trans (h3.block k hk)
    have := (hr k e.symm).1
    omega
theorem VerInv.round {w0 : World} {G : Nat} {v : Value} {l : List ByteArray} {W w9 : World} {g c n : Nat} (hB : Below G w0 W) (hW : Below G W w9)
    (hf : w9.heap[G]? = some (.cells #[v] 27 (0, 0))) (hO : OwnS w9 (G + 1) (.slice (some ⟨g, 0, none⟩) n c) l) :
    VerInv w0 G l (w9.setCell ⟨G, 0, none⟩ (.slice (some ⟨g, 0, none⟩) n c)) :=
  ⟨⟨_, (heap_setCell_same _ _ _ _ _ _ hf).trans rfl, hO.setFar (Nat.lt_succ_self _) 0 _⟩, (hB.trans hW).setCell (p := ⟨G, 0, none⟩) (Nat.le_refl _) _⟩
theorem endsB_joined (m : ByteArray) (sig : List ByteArray) (h : ∀ s ∈ sig, s.size = 16) : (Dg.joinedL (Dg.endsB m sig)).length ≤ 1099511627776 :=
  joined_16 _ (by rw [Dg.endsB_len]; decide) fun x hx => by
    obtain ⟨k, _, rfl⟩ := List.mem_map.1 hx
    have := Dg.chainB_le (sig.getD k ⟨#[]⟩) (15 - Dg.dig m k)
    have h2 : (sig.getD k ⟨#[]⟩).size ≤ 16 := by
      rw [List.getD_eq_getElem?_getD]
      cases hg : sig[k]? with
      | none => decide
      | some s => exact Nat.le_of_eq (h s (List.mem_of_getElem? hg))
    omega
theorem getD_eq (l : List ByteArray) (k : Nat) (h : k < l.length) : l.getD k ⟨#[]⟩ = l[k] := by rw [List.getD_eq_getElem?_getD, List.getElem?_eq_getElem h]; rfl
set_option maxRecDepth 100000 in
set_option maxHeartbeats 2000000 in
theorem verify_g (p m : ByteArray) (i : Int) (A A' : Option Addr) (n' c c' : Nat) (sig path : List ByteArray) (w : World) (he : Env w) (hm : m.size ≤ 9223372036854775807) (hn : n' ≤ 8) (hl : sig.length = 18) (hz : ∀ s ∈ sig, s.size ≤ 4611686018427387904) (hS : Strs w w.heap.size A sig) (hd : allDig sig = true)
    (hl2 : path.length = n') (hz2 : ∀ s ∈ path, s.size ≤ 1073741824) (hS2 : Strs w w.heap.size A' path) (hd2 : allDig path = true) (N : Nat) (hN : 2 ^ n' = N) (hi0 : 0 ≤ i) (hi : i < N) (_hc18 : 18 ≤ c) (R : Bool) (hR : checkB p N i (Dg.listB (Dg.endsB m sig)) path = R) :
    Calls Tryz.prog 38 #[.string p, .string m, .agg #[.int .i64 i, .slice A 18 c, .slice A' n' c']] w fun e w' => e = .returned (.bool R) ∧ Below w.heap.size w w' := by
  have hz16 := hide (allDig_16 hd)
  have hz := hide hz
  have hz2 := hide hz2
  have hz3 := hide (fun (s : ByteArray) (hs : s ∈ path) => (Nat.le_trans (hz2.out s hs) (by decide) : s.size ≤ 4611686018427387904))
  have hR := hide hR
  have d2 : decide (8 < (n' : Int)) = false := decide_eq_false (by omega)
  have d3 : decide (8 < n') = false := decide_eq_false (by omega)
  have d4 : decide (i < 0) = false := decide_eq_false (by omega)
  have d5 : decide ((N : Int) ≤ i) = false := decide_eq_false (by omega)
  have hw := pow_wrap n' N hN (by omega)
  have hw2 := pow_wrapK n' N hN (by omega)
  clear hN
  have hl' := hide hl; clear hl
  have hd' := hide hd; clear hd
  have hl2' := hide hl2; clear hl2
  have hd2' := hide hd2; clear hd2
  refine (callsIn_wide (n := 5)).1 ?_
  refine callsIn_of_wp_marks Tryz.func38 rfl trivial ?_ rfl
  simp only [Tryz.ntmps38, List.size_toArray, List.length_cons, List.length_nil, Nat.reduceAdd, Nat.reduceSub, Array.replicate_succ, Array.replicate_zero, List.push_toArray, List.append_toArray, List.nil_append, List.cons_append]
  refine wpIn_wide.2 ?_
  go_wp2
  have hS1 : Strs (w.alloc (.cells #[.int .i64 i, .slice A 18 c, .slice A' n' c'] 42)) (w.alloc (.cells #[.int .i64 i, .slice A 18 c, .slice A' n' c'] 42)).heap.size A sig := keepS hS (Below.news (Below.refl _ _) _)
  have hS3 : Strs (w.alloc (.cells #[.int .i64 i, .slice A 18 c, .slice A' n' c'] 42)) (w.alloc (.cells #[.int .i64 i, .slice A 18 c, .slice A' n' c'] 42)).heap.size A' path := keepS hS2 (Below.news (Below.refl _ _) _)
  have q1 := fun (d : Nat) (os : Array Obj) => Calls.regrown_of (odd_any A c 18 sig true hd'.out (grow (redrawn (w.alloc (.cells #[.int .i64 i, .slice A 18 c, .slice A' n' c'] 42)) d) os) hl'.out (by omega) hz.out (keepS hS1 (below_regrown _ d os)))
  have q2 := fun (d : Nat) (os : Array Obj) => Calls.regrown_of (odd_any A' c' n' path true hd2'.out (grow (redrawn (w.alloc (.cells #[.int .i64 i, .slice A 18 c, .slice A' n' c'] 42)) d) os) hl2'.out (by omega) hz3.out (keepS hS3 (below_regrown _ d os)))
  have Q1 := hide q1; have Q2 := hide q2; clear q1 q2 hS1 hS3
  have g0 := fun d os => (seal_cells w (.int .i64 i) (.slice A 18 c) (.slice A' n' c') d os).1
  have g1 := fun d os => (seal_cells w (.int .i64 i) (.slice A 18 c) (.slice A' n' c') d os).2.1
  have g2 := fun d os => (seal_cells w (.int .i64 i) (.slice A 18 c) (.slice A' n' c') d os).2.2
  refine wp_region_quiet_below (by kernel_rfl) (by decide +kernel) ?_
  repeat (first | go_big_quiet_step (fail) | quiet_step (fail))
  (first | go_big_quiet_step (exact Q1.out _ _) | quiet_step (exact Q1.out _ _))
  repeat (first | go_big_quiet_step (fail) | quiet_step (fail))
  (first | go_big_quiet_step (exact Q2.out _ _) | quiet_step (exact Q2.out _ _))
  repeat (first | go_big_quiet_step (fail) | quiet_step (fail))
  refine wpQuiet_nil ?_
  intro _ hw'
  obtain ⟨⟨dq, osq⟩, hw''⟩ := hw'
  subst hw''
  clear Q1 Q2
  have G0 := g0 dq osq
  have G1 := g1 dq osq
  have G2 := g2 dq osq
  clear g0 g1 g2
  have hbw := bnextA (Below.refl w.heap.size w) (below_regrown (w.alloc (.cells #[.int .i64 i, .slice A 18 c, .slice A' n' c'] 42)) dq osq)
  have hsw := (below_regrown (w.alloc (.cells #[.int .i64 i, .slice A 18 c, .slice A' n' c'] 42)) dq osq).size
  rw [World.size_alloc] at hsw
  generalize hW3 : grow (redrawn (w.alloc (.cells #[.int .i64 i, .slice A 18 c, .slice A' n' c'] 42)) dq) osq = W3 at *
  go_wp2_with (go_at_call 78; refine (sdigits_any _ _).mono ?_; rintro e w' ⟨rfl, rfl⟩)
  generalize hG : W3.heap.size = G at *
  have hgr : (W3.alloc (.cells #[.slice none 0 0] 27)).heap[G]? = some (.cells #[.slice none 0 0] 27) := by rw [← hG]; exact heap_alloc_new _ _
  have hsz4 : (W3.alloc (.cells #[.slice none 0 0] 27)).heap.size = G + 1 := by rw [World.size_alloc, hG]
  have hmr := heap_alloc_new (W3.alloc (.cells #[.slice none 0 0] 27)) (.cells #[.string m] 9)
  rw [hsz4] at hmr
  have hI : VerInv W3 G [] ((W3.alloc (.cells #[.slice none 0 0] 27)).alloc (.cells #[.string m] 9)) := ⟨⟨.slice none 0 0, ((Below.refl (G + 1) (W3.alloc (.cells #[.slice none 0 0] 27))).alloc (by omega) _).block G (by omega) |>.trans hgr, OwnS.nil _ _⟩, ((Below.refl _ W3).alloc (by omega) _).alloc (by omega) _⟩
  have hsz5 : ((W3.alloc (.cells #[.slice none 0 0] 27)).alloc (.cells #[.string m] 9)).heap.size = G + 2 := by rw [World.size_alloc, hsz4]
  generalize hW5 : (W3.alloc (.cells #[.slice none 0 0] 27)).alloc (.cells #[.string m] 9) = W5 at *
  have hc5 : W5.cell? ⟨G + 1, 0, none⟩ = some (.string m) := by rw [cell_of_row _ _ _ _ _ (0, 0) hmr]; rfl
  refine (wpIn_wide (n := 5)).1 ?_
  refine wpIn_rangeFunc_ownG (n := 5) rfl (by omega) (gf := 116) (lb := #[.pointer (some ⟨G + 1, 0, none⟩)]) rfl trivial (enters_of Tryz.func116 (by kernel_rfl) rfl)
    (digits_stops 4 (by omega) m hm (G + 1) W5 (by omega) hc5) (fun _ _ => trivial) (fun _ _ _ _ _ _ _ _ => trivial) (Below.refl _ _) (fun _ => rfl)
    (fun pre W => VerInv W3 G (endTo sig pre) W) (fun _ _ _ => False)
    (VerInv.own W3 _ _ _ (by omega)) (fun _ _ _ _ _ hs _ _ => hs) hI ?a1 ?assign ?body ?done ?stop
  case assign =>
    intro l x W K hK
    simp only [encD]
    gi_wp2
    exact hK
  case body =>
    rintro l pre ⟨⟨k, d⟩, hk, hd⟩ W ⟨⟨v, hv, hO⟩, hB⟩ hlt
    have hk : k < 18 := hk
    have hd : d ≤ 15 := hd
    have hkl : k < sig.length := by rw [hl'.out]; exact hk
    obtain ⟨b, off, rfl, hbl, hcell⟩ := hS.get hkl
    have hk0 : (0 : Int) ≤ (k : Int) := by omega
    have hk1 : (k : Int) < 18 := by omega
    have hgk := hide (getD_eq sig k hkl)
    have hx16 := hz16.out sig[k] (List.getElem_mem hkl)
    generalize sig[k] = x at *
    generalize hC : Dg.chainB x (15 - d) = C0 at *
    have HC := hide hC; clear hC
    have hmin : Hid ((min (15 - (d : Int)) 1000).toNat = 15 - d) := by unfold Hid; omega
    have hlB : G < W.heap.size := (Array.getElem?_eq_some_iff.1 hv).1
    have hmx : Tryz.prog.follows .mixedOrders = true := by kernel_rfl
    have hHeld : (fun W' : World => W'.cell? ⟨G, 0, none⟩ = some v ∧ W'.cell? ⟨w.heap.size, 1, none⟩ = some (.slice (some ⟨b, off, none⟩) 18 c) ∧ W'.cell? ⟨b, off + k, none⟩ = some (.string x)) W.drew := ⟨by show W.cell? _ = _; rw [cell_of_row _ _ _ _ _ (0, 0) hv]; rfl, (hB.cell (by simp; omega)).trans G1, (hB.cell (by simp; omega)).trans ((hbw.cell (by exact hbl)).trans hcell)⟩
    gi_wp2
    refine wpIn_region_L (fun W' : World => W'.cell? ⟨G, 0, none⟩ = some v ∧ W'.cell? ⟨w.heap.size, 1, none⟩ = some (.slice (some ⟨b, off, none⟩) 18 c) ∧ W'.cell? ⟨b, off + k, none⟩ = some (.string x)) 11 hmx (by kernel_rfl) (fun ⟨_, _, h⟩ => h) ?_
    refine wpAnyL_take (i := 0) (f0 := 12) (v := ?_) rfl (by decide +kernel) (by decide +kernel) (by decide +kernel) (by decide +kernel) (by decide +kernel) (fun _ _ _ h => h) (Or.inl ⟨by rfl, ?_⟩) hHeld ?_
    rotate_left
    · intro wS hS; obtain ⟨hS1, hS2, hS3⟩ := hS; go_simp; (try with_reducible rfl)
    simp only [Act.put, List.setIfInBounds_toArray]
    refine wpAnyL_take (i := 1) (f0 := 12) (v := ?_) rfl (by decide +kernel) (by decide +kernel) (by decide +kernel) (by decide +kernel) (by decide +kernel) (fun _ _ _ h => h) (Or.inl ⟨by rfl, ?_⟩) hHeld ?_
    rotate_left
    · intro wS hS; obtain ⟨hS1, hS2, hS3⟩ := hS; go_simp; (try with_reducible rfl)
    simp only [Act.put]
    refine wpAnyL_take (i := 2) (f0 := 12) (v := ?_) rfl (by decide +kernel) (by decide +kernel) (by decide +kernel) (by decide +kernel) (by decide +kernel) (fun _ _ _ h => h) (Or.inl ⟨by rfl, ?_⟩) hHeld ?_
    rotate_left
    · intro wS hS; obtain ⟨hS1, hS2, hS3⟩ := hS; go_simp; (try with_reducible rfl)
    simp only [Act.put]
    refine wpAnyL_take (i := 3) (f0 := 12) (v := ?_) rfl (by decide +kernel) (by decide +kernel) (by decide +kernel) (by decide +kernel) (by decide +kernel) (fun _ _ _ h => h) (Or.inl ⟨by rfl, ?_⟩) hHeld ?_
    rotate_left
    · intro wS hS; obtain ⟨hS1, hS2, hS3⟩ := hS; go_simp; (try with_reducible rfl)
    simp only [Act.put]
    refine wpAnyL_take (i := 4) (f0 := 12) (v := ?_) rfl (by decide +kernel) (by decide +kernel) (by decide +kernel) (by decide +kernel) (by decide +kernel) (fun _ _ _ h => h) (Or.inl ⟨by rfl, ?_⟩) hHeld ?_
    rotate_left
    · intro wS hS; obtain ⟨hS1, hS2, hS3⟩ := hS; go_simp; (try with_reducible rfl)
    simp only [Act.put]
    refine wpAnyL_take (i := 5) (f0 := 12) (v := ?_) rfl (by decide +kernel) (by decide +kernel) (by decide +kernel) (by decide +kernel) (by decide +kernel) (fun _ _ _ h => h) (Or.inl ⟨by rfl, ?_⟩) hHeld ?_
    rotate_left
    · intro wS hS; obtain ⟨hS1, hS2, hS3⟩ := hS; go_simp; (try with_reducible rfl)
    simp only [Act.put]
    refine wpAnyL_take (i := 6) (f0 := 12) (v := ?_) rfl (by decide +kernel) (by decide +kernel) (by decide +kernel) (by decide +kernel) (by decide +kernel) (fun _ _ _ h => h) (Or.inl ⟨by rfl, ?_⟩) hHeld ?_
    rotate_left
    · intro wS hS; obtain ⟨hS1, hS2, hS3⟩ := hS; go_simp; (try with_reducible rfl)
    simp only [Act.put]
    refine wpAnyL_take (i := 7) (f0 := 12) (v := ?_) rfl (by decide +kernel) (by decide +kernel) (by decide +kernel) (by decide +kernel) (by decide +kernel) (fun _ _ _ h => h) (Or.inl ⟨by rfl, ?_⟩) hHeld ?_
    rotate_left
    · intro wS hS; obtain ⟨hS1, hS2, hS3⟩ := hS; go_simp; (try with_reducible rfl)
    simp only [Act.put]
    refine wpAnyL_one (i := 8) (by decide +kernel) (by rfl) (fun K hK => ?_)
    rw [if_pos (by rfl)]
    go_simp
    rw [IntWalk.i64_in (15 - (d : Int)) (by omega)]
    refine (chain_of x _ (15 - d) hmin.out C0 HC.out (by omega) _).mono ?_
    rintro e w3 ⟨rfl, hb3⟩
    have hs3 : W.heap.size ≤ w3.heap.size := hb3.size
    have hX : (fun W' : World => W'.cell? ⟨G, 0, none⟩ = some v ∧ W'.cell? ⟨w.heap.size, 1, none⟩ = some (.slice (some ⟨b, off, none⟩) 18 c) ∧ W'.cell? ⟨b, off + k, none⟩ = some (.string x)) w3 := ⟨(hb3.cell (by simp <;> omega)).trans hHeld.1, (hb3.cell (by simp <;> omega)).trans hHeld.2.1, (hb3.cell (by simp <;> omega)).trans hHeld.2.2⟩
    clear hHeld
    have hHeld := hX; clear hX
    refine hK.out _ _ (Or.inr hHeld) ?_
    clear hK K
    try simp only [Act.put, List.setIfInBounds_toArray, List.set_cons_zero, List.set_cons_succ]
    refine wpAnyL_one (i := 9) (by decide +kernel) (by rfl) (fun K hK => ?_)
    rw [if_pos (by rfl)]
    go_simp
    have hba : Below w3.heap.size w3 (w3.alloc (.cells #[.string C0] 9)) := (Below.refl _ _).alloc (Nat.le_refl _) _
    have hOa : OwnS (w3.alloc (.cells #[.string C0] 9)) (G + 1) v (endTo sig pre) := OwnV.alloc (OwnS.below (w := W.drew) hO hb3) _
    have hsa : (w3.alloc (.cells #[.string C0] 9)).heap.size = w3.heap.size + 1 := by simp
    have hSa := Strs.new w3 [C0] #[.string C0] 9 rfl
    have hfa : (w3.alloc (.cells #[.string C0] 9)).heap[G]? = some (.cells #[v] 27 (0, 0)) := (hba.block _ (by omega)).trans ((hb3.block _ (by simp; omega)).trans hv)
    have hX : (fun W' : World => W'.cell? ⟨G, 0, none⟩ = some v ∧ W'.cell? ⟨w.heap.size, 1, none⟩ = some (.slice (some ⟨b, off, none⟩) 18 c) ∧ W'.cell? ⟨b, off + k, none⟩ = some (.string x)) (w3.alloc (.cells #[.string C0] 9)) := ⟨(hba.cell (by simp <;> omega)).trans hHeld.1, (hba.cell (by simp <;> omega)).trans hHeld.2.1, (hba.cell (by simp <;> omega)).trans hHeld.2.2⟩
    clear hHeld
    have hHeld := hX; clear hX
    refine hK.out _ _ (Or.inr hHeld) ?_
    generalize hwa : w3.alloc (.cells #[.string C0] 9) = wa at *
    clear hK K
    try simp only [Act.put, List.setIfInBounds_toArray, List.set_cons_zero, List.set_cons_succ]
    refine wpAnyL_one (i := 10) (by decide +kernel) (by rfl) (fun K hK => ?_)
    rw [if_pos (by rfl)]
    refine wp_ad (.tmp 51) (.tmp 60) (by rfl) (G + 1) _ v (endTo sig pre) [C0] (by rfl) hOa (some ⟨w3.heap.size, 0, none⟩) 1 1 rfl (by rfl) hSa (by rw [endTo, List.length_map]; omega) (by omega) ?_
    intro v9 w9 hO9 hb9 hg9
    obtain ⟨g9, c9, rfl, hg9b, hg9l⟩ := OwnS.full hO9 (by simp)
    have hX : (fun W' : World => W'.cell? ⟨G, 0, none⟩ = some v ∧ W'.cell? ⟨w.heap.size, 1, none⟩ = some (.slice (some ⟨b, off, none⟩) 18 c) ∧ W'.cell? ⟨b, off + k, none⟩ = some (.string x)) w9 := ⟨(hb9.cell (by simp <;> omega)).trans hHeld.1, (hb9.cell (by simp <;> omega)).trans hHeld.2.1, (hb9.cell (by simp <;> omega)).trans hHeld.2.2⟩
    clear hHeld
    have hHeld := hX; clear hX
    refine hK.out _ _ (Or.inr hHeld) ?_
    clear hK K
    try simp only [Act.put, List.setIfInBounds_toArray]
    refine wpAnyL_one (i := 11) (by decide +kernel) (by rfl) (fun K hK => ?_)
    rw [if_pos (by rfl)]
    have hc9 : w9.cell? ⟨G, 0, none⟩ = some v := hHeld.1
    have hf9' : w9.heap[G]? = some (.cells #[v] 27 (0, 0)) := (hb9.block G (by omega)).trans hfa
    have hf9 : w9.frozen? ⟨G, 0, none⟩ = false := frozen_of_row _ _ _ _ _ hf9'
    clear hHeld
    go_simp
    refine hK.out _ _ (Or.inl (by decide +kernel)) ?_
    clear hK K
    try simp only [Act.put, List.setIfInBounds_toArray, List.set_cons_zero, List.set_cons_succ]
    refine wpAnyL_done (by decide +kernel) ?_ _
    gi_wp2
    have hbT : Below W.heap.size W wa := by
      subst hwa
      exact (below_undrew hb3).alloc hb3.size _
    refine ⟨((keeps_below hbT).trans ((keeps_own hOa hg9).trans (KeepsOthers.setCell _ _ _))).from _, trivial, ?_⟩
    have hR := VerInv.round hB ((hbT.mono (by omega)).trans (hb9.mono (by omega))) hf9' hO9
    have e : endTo sig (pre ++ [⟨(k, d), ⟨hk, hd⟩⟩]) = endTo sig pre ++ [C0] := by
      rw [endTo_snoc]
      show endTo sig pre ++ [Dg.chainB (sig.getD k ⟨#[]⟩) (15 - d)] = _
      rw [hgk.out, HC.out]
    rw [show (endTo sig pre ++ [C0]).length = (endTo sig pre).length + 1 from by simp] at hR
    show VerInv W3 G (endTo sig (pre ++ [⟨(k, d), ⟨hk, hd⟩⟩])) _
    rw [e]
    exact hR
  case done =>
    rintro D xs W hD hxs ⟨⟨v, hv, hO⟩, hB⟩ hK0
    rw [endTo_all m sig xs hxs] at hO
    have hel := hide (Dg.endsB_len m sig)
    obtain ⟨Av, cv, rfl, hcv, hSv⟩ := hO.strs
    rw [hel.out] at hv hcv
    have hez := hide (fun (s : ByteArray) (hs : s ∈ Dg.endsB m sig) => (Dg.endsB_size m sig hz16.out s hs : s.size ≤ 1099511627776))
    have hj := endsB_joined m sig hz16.out
    have hkz : (Dg.listB (Dg.endsB m sig)).size ≤ 1073741824 := by rw [listB_size]; decide
    generalize hKB : Dg.listB (Dg.endsB m sig) = KB at *
    have HKB := hide hKB; clear hKB
    have hlB : G < W.heap.size := (Array.getElem?_eq_some_iff.1 hv).1
    have hbW : Below w.heap.size w W := hbw.trans (hB.mono (by omega))
    have heW : Env W := he.next hbW
    have hmx : Tryz.prog.follows .mixedOrders = true := by kernel_rfl
    have hHeld : (fun W' : World => W'.cell? ⟨w.heap.size, 0, none⟩ = some (.int .i64 i) ∧ W'.cell? ⟨w.heap.size, 2, none⟩ = some (.slice A' n' c') ∧ W'.cell? ⟨G, 0, none⟩ = some (.slice Av 18 cv)) W.drew := ⟨(hB.cell (by simp; omega)).trans G0, (hB.cell (by simp; omega)).trans G2, by show W.cell? _ = _; rw [cell_of_row _ _ _ _ _ (0, 0) hv]; rfl⟩
    go_wp2
    refine wp_region_noPanic ?_
    refine wp_region_L (fun W' : World => W'.cell? ⟨w.heap.size, 0, none⟩ = some (.int .i64 i) ∧ W'.cell? ⟨w.heap.size, 2, none⟩ = some (.slice A' n' c') ∧ W'.cell? ⟨G, 0, none⟩ = some (.slice Av 18 cv)) 11 hmx ?_
    refine wpAnyL_take (i := 0) (f0 := 12) (v := ?_) rfl (by decide +kernel) (by decide +kernel) (by decide +kernel) (by decide +kernel) (by decide +kernel) (fun _ _ _ h => h) (Or.inl ⟨by rfl, ?_⟩) hHeld ?_
    rotate_left
    · intro wS hS; obtain ⟨hS1, hS2, hS3⟩ := hS; go_simp; (try with_reducible rfl)
    simp only [Act.put, List.setIfInBounds_toArray]
    refine wpAnyL_take (i := 1) (f0 := 12) (v := ?_) rfl (by decide +kernel) (by decide +kernel) (by decide +kernel) (by decide +kernel) (by decide +kernel) (fun _ _ _ h => h) (Or.inl ⟨by rfl, ?_⟩) hHeld ?_
    rotate_left
    · intro wS hS; obtain ⟨hS1, hS2, hS3⟩ := hS; go_simp; (try with_reducible rfl)
    simp only [Act.put]
    refine wpAnyL_take (i := 2) (f0 := 12) (v := ?_) rfl (by decide +kernel) (by decide +kernel) (by decide +kernel) (by decide +kernel) (by decide +kernel) (fun _ _ _ h => h) (Or.inl ⟨by rfl, ?_⟩) hHeld ?_
    rotate_left
    · intro wS hS; obtain ⟨hS1, hS2, hS3⟩ := hS; go_simp; (try with_reducible rfl)
    simp only [Act.put]
    refine wpAnyL_take (i := 3) (f0 := 12) (v := ?_) rfl (by decide +kernel) (by decide +kernel) (by decide +kernel) (by decide +kernel) (by decide +kernel) (fun _ _ _ h => h) (Or.inl ⟨by rfl, ?_⟩) hHeld ?_
    rotate_left
    · intro wS hS; obtain ⟨hS1, hS2, hS3⟩ := hS; go_simp; (try with_reducible rfl)
    simp only [Act.put]
    refine wpAnyL_take (i := 4) (f0 := 12) (v := ?_) rfl (by decide +kernel) (by decide +kernel) (by decide +kernel) (by decide +kernel) (by decide +kernel) (fun _ _ _ h => h) (Or.inl ⟨by rfl, ?_⟩) hHeld ?_
    rotate_left
    · intro wS hS; obtain ⟨hS1, hS2, hS3⟩ := hS; go_simp; (try with_reducible rfl)
    simp only [Act.put]
    refine wpAnyL_take (i := 5) (f0 := 12) (v := ?_) rfl (by decide +kernel) (by decide +kernel) (by decide +kernel) (by decide +kernel) (by decide +kernel) (fun _ _ _ h => h) (Or.inl ⟨by rfl, ?_⟩) hHeld ?_
    rotate_left
    · intro wS hS; obtain ⟨hS1, hS2, hS3⟩ := hS; go_simp; (try with_reducible rfl)
    simp only [Act.put]
    refine wpAnyL_take (i := 7) (f0 := 12) (v := ?_) rfl (by decide +kernel) (by decide +kernel) (by decide +kernel) (by decide +kernel) (by decide +kernel) (fun _ _ _ h => h) (Or.inl ⟨by rfl, ?_⟩) hHeld ?_
    rotate_left
    · intro wS hS; obtain ⟨hS1, hS2, hS3⟩ := hS; go_simp; (try with_reducible rfl)
    simp only [Act.put]
    refine wpAnyL_take (i := 8) (f0 := 12) (v := ?_) rfl (by decide +kernel) (by decide +kernel) (by decide +kernel) (by decide +kernel) (by decide +kernel) (fun _ _ _ h => h) (Or.inl ⟨by rfl, ?_⟩) hHeld ?_
    rotate_left
    · intro wS hS; obtain ⟨hS1, hS2, hS3⟩ := hS; go_simp; (try with_reducible rfl)
    simp only [Act.put]
    refine wpAnyL_one (i := 6) (by decide +kernel) (by rfl) (fun K hK => ?_)
    rw [if_pos (by rfl)]
    go_simp
    refine (of_of Av cv 18 (Dg.endsB m sig) hel.out KB HKB.out _ (heW.next (Below.refl _ _).drew) (by rw [hel.out]; decide) hj hez.out (hSv.below (Below.refl _ _).drew)).mono ?_
    rintro e w1 ⟨rfl, hb1⟩
    have hs1 : W.heap.size ≤ w1.heap.size := hb1.size
    have hX : (fun W' : World => W'.cell? ⟨w.heap.size, 0, none⟩ = some (.int .i64 i) ∧ W'.cell? ⟨w.heap.size, 2, none⟩ = some (.slice A' n' c') ∧ W'.cell? ⟨G, 0, none⟩ = some (.slice Av 18 cv)) w1 := ⟨(hb1.cell (by simp <;> omega)).trans hHeld.1, (hb1.cell (by simp <;> omega)).trans hHeld.2.1, (hb1.cell (by simp <;> omega)).trans hHeld.2.2⟩
    clear hHeld
    have hHeld := hX; clear hX
    refine hK.out _ _ (Or.inr hHeld) ?_
    clear hK K
    try simp only [Act.put, List.setIfInBounds_toArray, List.set_cons_zero, List.set_cons_succ]
    refine wpAnyL_one (i := 9) (by decide +kernel) (by rfl) (fun K hK => ?_)
    rw [if_pos (by rfl)]
    go_simp
    refine (check_of p N i KB A' c' n' path R hR.out w1 (heW.next (below_undrew hb1)) hl2'.out (by omega) hz2.out hkz (keepS (keepS hS2 hbW) (below_undrew hb1))).mono ?_
    rintro e w3 ⟨rfl, hb3⟩
    have hX : (fun W' : World => W'.cell? ⟨w.heap.size, 0, none⟩ = some (.int .i64 i) ∧ W'.cell? ⟨w.heap.size, 2, none⟩ = some (.slice A' n' c') ∧ W'.cell? ⟨G, 0, none⟩ = some (.slice Av 18 cv)) w3 := ⟨(hb3.cell (by simp <;> omega)).trans hHeld.1, (hb3.cell (by simp <;> omega)).trans hHeld.2.1, (hb3.cell (by simp <;> omega)).trans hHeld.2.2⟩
    clear hHeld
    have hHeld := hX; clear hX
    refine hK.out _ _ (Or.inr hHeld) ?_
    clear hK K
    try simp only [Act.put, List.setIfInBounds_toArray, List.set_cons_zero, List.set_cons_succ]
    refine wpAnyL_take (i := 10) (f0 := 12) (v := ?_) rfl (by decide +kernel) (by decide +kernel) (by decide +kernel) (by decide +kernel) (by decide +kernel) (fun _ _ _ h => h) (Or.inl ⟨by rfl, ?_⟩) hHeld ?_
    rotate_left
    · intro wS hS; obtain ⟨hS1, hS2, hS3⟩ := hS; go_simp; (try with_reducible rfl)
    simp only [Act.put, List.setIfInBounds_toArray]
    refine wpAnyL_done (by decide +kernel) ?_ _
    refine NoPanic.normal ?_
    go_wp2
    have hDW : D < W.heap.size := (Array.getElem?_eq_some_iff.1 hK0).1
    have hK3 : w3.heap[D]? = some (.deferred (some [])) := (hb3.block D (by omega)).trans ((hb1.block D (by simp; omega)).trans hK0)
    refine ⟨by simp, .inl ⟨_, _, rfl, run_takeDeferred (ds := []) hK3, ?_⟩⟩
    exact ⟨_, results_tmp rfl _ _ _, rfl, (hbW.trans (((below_undrew hb1).mono hbW.size).trans (hb3.mono (by have := hbW.size; omega)))).trans (belowK_b (w := w) (Nat.le_refl _) w3 D _ _ (by omega) hK3 rfl rfl)⟩
  case stop =>
    rintro D c pre W _ _ h _
    exact h.elim
/-- What Verify computes. -/
def verifyB (p m : ByteArray) (i : Int) (sig path : List ByteArray) : Bool :=
  decide (sig.length = 18) && decide (path.length ≤ 8) && allDig sig && allDig path && decide (0 ≤ i) && decide (i < ((2 ^ path.length : Nat) : Int)) && checkB p ((2 ^ path.length : Nat) : Int) i (Dg.listB (Dg.endsB m sig)) path
theorem verify_of (p m : ByteArray) (i : Int) (A A' : Option Addr) (n n' c c' : Nat) (sig path : List ByteArray) (w : World) (he : Env w) (hm : m.size ≤ 9223372036854775807) (hl : sig.length = n) (hz : ∀ s ∈ sig, s.size ≤ 1073741824) (hS : Strs w w.heap.size A sig)
    (hl2 : path.length = n') (hz2 : ∀ s ∈ path, s.size ≤ 1073741824) (hS2 : Strs w w.heap.size A' path) (hc : n ≤ c) (R : Bool) (hR : verifyB p m i sig path = R) :
    Calls Tryz.prog 38 #[.string p, .string m, .agg #[.int .i64 i, .slice A n c, .slice A' n' c']] w fun e w' => e = .returned (.bool R) ∧ Below w.heap.size w w' := by
  have hzz : ∀ s ∈ sig, s.size ≤ 4611686018427387904 := fun s hs => Nat.le_trans (hz s hs) (by decide)
  have hzz2 : ∀ s ∈ path, s.size ≤ 4611686018427387904 := fun s hs => Nat.le_trans (hz2 s hs) (by decide)
  subst hR
  unfold verifyB
  by_cases h1 : n = 18
  · subst h1
    rw [decide_eq_true hl, Bool.true_and]
    by_cases h2 : n' ≤ 8
    · rw [decide_eq_true (by rw [hl2]; exact h2), Bool.true_and]
      cases h3 : allDig sig with
      | false => exact verify_c p m i A A' n' c c' sig w h2 hl hzz hS h3
      | true =>
        cases h4 : allDig path with
        | false => exact verify_d p m i A A' n' c c' sig path w h2 hl hzz hS h3 hl2 hzz2 hS2 h4
        | true =>
          by_cases h5 : i < 0
          · rw [decide_eq_false (by omega)]
            exact verify_e p m i A A' n' c c' sig path w h2 hl hzz hS h3 hl2 hzz2 hS2 h4 h5
          · rw [decide_eq_true (by omega : 0 ≤ i)]
            rw [hl2]
            by_cases h6 : i < ((2 ^ n' : Nat) : Int)
            · rw [decide_eq_true h6]
              exact verify_g p m i A A' n' c c' sig path w he hm h2 hl hzz hS h3 hl2 hz2 hS2 h4 (2 ^ n') rfl (by omega) h6 hc _ rfl
            · rw [decide_eq_false h6]
              exact verify_f p m i A A' n' c c' sig path w h2 hl hzz hS h3 hl2 hzz2 hS2 h4 (2 ^ n') rfl (by omega)
    · rw [decide_eq_false (by rw [hl2]; exact h2)]
      exact verify_b p m i A A' n' c c' w (by omega)
  · rw [decide_eq_false (by rw [hl]; exact h1)]
    exact verify_a p m i A A' n n' c c' w h1
end Go.Proofs.YtobhpeockinnjaaGreatDoor
/- New and Learn of package proof. No conditions but those that each theorem states. -/
namespace Go.Proofs.YtobhpeockinnjaaGreatDoor
open Go Go.RowKit Go.Sort Go.Maps
set_option maxRecDepth 100000 in
set_option maxHeartbeats 4000000 in
theorem pnew_of (key : ByteArray) (w : World) :
    Calls Tryz.prog 22 #[.string key] w fun e w' => e = .returned (.pointer (some ⟨w.heap.size + 1, 0, none⟩)) ∧ Rd (w.heap.size + 1) w.heap.size key [] w' ∧ w'.heap.size = w.heap.size + 2 ∧ Below w.heap.size w w' := by
  have hmm := @run_makeMap Tryz.prog
  have hx1 := Below.news (Below.refl w.heap.size w) (.map #[] 0)
  have hx2 := Below.news (Below.refl (w.alloc (.map #[] 0)).heap.size (w.alloc (.map #[] 0))) (.cells #[.string key, .map (some w.heap.size)] 88)
  have hs1 : (w.alloc (.map #[] 0)).heap.size = w.heap.size + 1 := by simp
  have hmap := World.ownsMap_made w Tryz.prog 3 rLe
  have hmap2 := ownsMap_off (S := []) hmap (Off.of_below hx2) (by simp)
  have hr := heap_alloc_new (w.alloc (.map #[] 0)) (.cells #[.string key, .map (some w.heap.size)] 88)
  rw [hs1] at hr
  have hs2 : ((w.alloc (.map #[] 0)).alloc (.cells #[.string key, .map (some w.heap.size)] 88)).heap.size = w.heap.size + 2 := by simp
  have HR := hide (Rd.mk (key := key) (l := []) hr hmap2 (by omega))
  have HS := hide hs2
  have HB := hide (bnext hx1 hx2)
  clear hx1 hx2 hs1 hmap hmap2 hr hs2
  go_enter Tryz.func22, Tryz.ntmps22
  go_wp2
  go_ret
  exact ⟨rfl, HR.out, HS.out, HB.out⟩
/-- What Learn holds. -/
structure LS (br mb : Nat) (key : ByteArray) (l : List Dy) (bs : Nat) (i : Int) (A : Option Addr) (n c : Nat) (sig : List ByteArray) (A' : Option Addr) (n' c' : Nat) (path : List ByteArray) (X : World) : Prop where
  rd : Rd br mb key l X
  srow : X.heap[bs]? = some (.cells #[.int .i64 i, .slice A n c, .slice A' n' c'] 42 (0, 0))
  sig : Strs X X.heap.size A sig
  path : Strs X X.heap.size A' path
  env : Env X
theorem LS.below {br mb : Nat} {key : ByteArray} {l : List Dy} {bs : Nat} {i : Int} {A : Option Addr} {n c : Nat} {sig : List ByteArray} {A' : Option Addr} {n' c' : Nat} {path : List ByteArray} {X X' : World} (h : LS br mb key l bs i A n c sig A' n' c' path X) (hb : Below X.heap.size X X') : LS br mb key l bs i A n c sig A' n' c' path X' := ⟨h.rd.below hb, iNext h.srow hb, keepS h.sig hb, keepS h.path hb, h.env.next hb⟩
theorem jCells3 {w : World} {g : Nat} {a b c : Value} {T : TypeId} (h : w.heap[g]? = some (.cells #[a, b, c] T (0, 0))) : w.cell? ⟨g, 0, none⟩ = some a ∧ w.cell? ⟨g, 1, none⟩ = some b ∧ w.cell? ⟨g, 2, none⟩ = some c := by
  refine ⟨?_, ?_, ?_⟩ <;> (rw [cell_of_row _ _ _ _ _ (0, 0) h]; rfl)
theorem jCells2' {w : World} {g : Nat} {a b : Value} {T : TypeId} (h : w.heap[g]? = some (.cells #[a, b] T (0, 0))) : w.cell? ⟨g, 0, none⟩ = some a ∧ w.cell? ⟨g, 1, none⟩ = some b := by
  refine ⟨?_, ?_⟩ <;> (rw [cell_of_row _ _ _ _ _ (0, 0) h]; rfl)
theorem ret_err {a b : Int} (h : a = b) : Ending.returned (.int .i64 a) = .returned (.int .i64 b) := by rw [h]
theorem learnE_bad {l : List Dy} {V : Bool} {d c : Int} {root : ByteArray} (h : learnBad d c root) : learnE l V d c root = (1, l) := if_pos h
theorem learnE_key {l : List Dy} {d c : Int} {root : ByteArray} (h : ¬ learnBad d c root) : learnE l false d c root = (19, l) := by unfold learnE; rw [if_neg h, if_pos rfl]
theorem learnE_new {l : List Dy} {d c : Int} {root : ByteArray} (h : ¬ learnBad d c root) (hf : foundD l d = none) : learnE l true d c root = (0, (d, c, root) :: l) := by
  unfold learnE; rw [if_neg h, if_neg (by decide), hf]
theorem learnE_same {l : List Dy} {d c : Int} {root : ByteArray} (h : ¬ learnBad d c root) (hf : foundD l d = some (c, root)) : learnE l true d c root = (0, (d, c, root) :: l) := by
  unfold learnE; rw [if_neg h, if_neg (by decide), hf]; exact if_pos ⟨rfl, rfl⟩
theorem learnE_fork {l : List Dy} {d c c0 : Int} {root r0 : ByteArray} (h : ¬ learnBad d c root) (hf : foundD l d = some (c0, r0)) (hne : ¬ (c0 = c ∧ r0 = root)) : learnE l true d c root = (23, l) := by
  unfold learnE; rw [if_neg h, if_neg (by decide), hf]; exact if_neg hne
attribute [-go_sem] run_neq_struct in
set_option maxRecDepth 100000 in
set_option maxHeartbeats 16000000 in
theorem plearn_of (br mb : Nat) (key : ByteArray) (l : List Dy) (day count : Int) (root : ByteArray) (d0 : -9223372036854775808 ≤ day) (d1 : day ≤ 9223372036854775807) (c0 : -9223372036854775808 ≤ count) (c1 : count ≤ 9223372036854775807) (hr : root.size ≤ 1048576) (hlen : l.length ≤ 1048576)
    (i : Int) (A : Option Addr) (n c : Nat) (sig : List ByteArray) (A' : Option Addr) (n' c' : Nat) (path : List ByteArray) (hl : sig.length = n) (hz : ∀ s ∈ sig, s.size ≤ 1048576) (hl2 : path.length = n') (hz2 : ∀ s ∈ path, s.size ≤ 1048576) (hc : n ≤ c)
    (w : World) (he : Env w) (hS : Strs w w.heap.size A sig) (hS2 : Strs w w.heap.size A' path) (hR : Rd br mb key l w) (V : Bool) (hV : verifyB key (msgB day count root) i sig path = V) (E : Int) (l' : List Dy) (hE : learnE l V day count root = (E, l')) :
    Calls Tryz.prog 24 #[.pointer (some ⟨br, 0, none⟩), .int .i64 day, .int .i64 count, .string root, .agg #[.int .i64 i, .slice A n c, .slice A' n' c']] w fun e w' => e = .returned (.int .i64 E) ∧ Rd br mb key l' w' ∧ Off [mb] w w' := by
  have hx1 := Below.news (Below.refl w.heap.size w) (.cells #[.int .i64 i, .slice A n c, .slice A' n' c'] 42)
  have hS1 : LS br mb key l w.heap.size i A n c sig A' n' c' path (w.alloc (.cells #[.int .i64 i, .slice A n c, .slice A' n' c'] 42)) := ⟨hR.below hx1, heap_alloc_new w _, keepS hS hx1, keepS hS2 hx1, he.next hx1⟩
  have hmb := hR.map.lt
  have HL := hide hl; have HZ := hide hz; have HL2 := hide hl2; have HZ2 := hide hz2; have HV := hide hV; have HE := hide hE; have HMB := hide hmb
  clear hl hz hl2 hz2 hV hE hmb he hS hS2 hR
  have hmx : Tryz.prog.follows .mixedOrders = true := by kernel_rfl
  go_enter Tryz.func24, Tryz.ntmps24
  have hfin : Hid (∀ w', Below w.heap.size w w' → LS br mb key l w.heap.size i A n c sig A' n' c' path w' → (learnE l V day count root).2 = l → Rd br mb key l' w' ∧ Off [mb] w w') := fun w' hb hs e => by
    rw [HE.out] at e
    exact ⟨by rw [show l' = l from e]; exact hs.rd, Off.of_below hb⟩
  by_cases g1 : day < 0
  · have E9 := hide (learnE_bad (l := l) (V := V) (Or.inl g1 : learnBad day count root))
    go_wp2
    go_ret
    exact ⟨ret_err (by have := E9.out; rw [HE.out] at this; injection this with this _; exact this.symm), hfin.out _ hx1 hS1 (by rw [E9.out])⟩
  by_cases g2 : 1000000 < day
  · have E9 := hide (learnE_bad (l := l) (V := V) (Or.inr (Or.inl g2) : learnBad day count root))
    go_wp2
    go_ret
    exact ⟨ret_err (by have := E9.out; rw [HE.out] at this; injection this with this _; exact this.symm), hfin.out _ hx1 hS1 (by rw [E9.out])⟩
  by_cases g3 : count < 0
  · have E9 := hide (learnE_bad (l := l) (V := V) (Or.inr (Or.inr (Or.inl g3)) : learnBad day count root))
    go_wp2
    go_ret
    exact ⟨ret_err (by have := E9.out; rw [HE.out] at this; injection this with this _; exact this.symm), hfin.out _ hx1 hS1 (by rw [E9.out])⟩
  by_cases g4 : 2000 < count
  · have E9 := hide (learnE_bad (l := l) (V := V) (Or.inr (Or.inr (Or.inr (Or.inl g4))) : learnBad day count root))
    go_wp2
    go_ret
    exact ⟨ret_err (by have := E9.out; rw [HE.out] at this; injection this with this _; exact this.symm), hfin.out _ hx1 hS1 (by rw [E9.out])⟩
  go_wp2_with fail
  generalize w.alloc (.cells #[.int .i64 i, .slice A n c, .slice A' n' c'] 42) = w1 at *
  obtain ⟨B, hB⟩ : ∃ B, Dg.isB root = B := ⟨_, rfl⟩
  refine (is_of root B hB (by omega) w1).mono ?_
  rintro e w2 ⟨rfl, hx⟩
  have hS2 := hS1.below hx
  have hb2 := bnext hx1 hx
  clear hS1 hx1 hx
  cases B with
  | false =>
    have E9 := hide (learnE_bad (l := l) (V := V) (Or.inr (Or.inr (Or.inr (Or.inr hB))) : learnBad day count root))
    clear hB
    go_wp2
    go_ret
    exact ⟨ret_err (by have := E9.out; rw [HE.out] at this; injection this with this _; exact this.symm), hfin.out _ hb2 hS2 (by rw [E9.out])⟩
  | true =>
    have hok : ¬ learnBad day count root := fun h => by
      rcases h with h | h | h | h | h
      · omega
      · omega
      · omega
      · omega
      · rw [hB] at h; cases h
    have HOK := hide hok
    clear hok hB
    go_upto_region 3 with (fail)
    clear g1 g2 g3 g4
    try clear hc1
    try clear hc2
    refine wp_region_noPanic ?_
    refine wp_region_L (LS br mb key l w.heap.size i A n c sig A' n' c' path) 11 hmx ?_
    have hdr := (Below.refl w2.heap.size w2).drew
    have hS3 : (LS br mb key l w.heap.size i A n c sig A' n' c' path) w2.drew := hS2.below hdr
    have hb3 := bnext hb2 hdr
    clear hdr hS2 hb2
    generalize w2.drew = w3 at *
    obtain ⟨M, hM⟩ : ∃ M, msgB day count root = M := ⟨_, rfl⟩
    have HM := hide hM
    have HVM := hide (show verifyB key M i sig path = V by rw [← hM]; exact HV.out)
    have HMZ := hide (show M.size ≤ 9223372036854775807 by rw [← hM, msgB_size]; decide)
    clear hM
    refine wpAnyL_take (i := 0) (f0 := 13) (v := ?_) rfl (by decide +kernel) (by decide +kernel) (by decide +kernel) (by decide +kernel) (by decide +kernel) (fun _ _ _ h => h) (Or.inl ⟨by rfl, ?_⟩) hS3 ?_
    rotate_left
    · intro wS hS; go_simp; (try with_reducible rfl)
    simp only [Act.put, List.getElem_toArray, List.getElem_cons_zero, List.setIfInBounds_toArray, List.set_cons_succ, List.set_cons_zero]
    refine wpAnyL_take (i := 1) (f0 := 13) (v := ?_) rfl (by decide +kernel) (by decide +kernel) (by decide +kernel) (by decide +kernel) (by decide +kernel) (fun _ _ _ h => h) (Or.inl ⟨by rfl, ?_⟩) hS3 ?_
    rotate_left
    · intro wS hS; go_simp; (try with_reducible rfl)
    simp only [Act.put, List.getElem_toArray, List.getElem_cons_succ, List.getElem_cons_zero, List.setIfInBounds_toArray, List.set_cons_succ, List.set_cons_zero]
    refine wpAnyL_take (i := 2) (f0 := 13) (v := ?_) rfl (by decide +kernel) (by decide +kernel) (by decide +kernel) (by decide +kernel) (by decide +kernel) (fun _ _ _ h => h) (Or.inl ⟨by rfl, ?_⟩) hS3 ?_
    rotate_left
    · intro wS hS; go_simp; (try with_reducible rfl)
    simp only [Act.put, List.getElem_toArray, List.getElem_cons_succ, List.getElem_cons_zero, List.setIfInBounds_toArray, List.set_cons_succ, List.set_cons_zero]
    refine wpAnyL_take (i := 3) (f0 := 13) (v := ?_) rfl (by decide +kernel) (by decide +kernel) (by decide +kernel) (by decide +kernel) (by decide +kernel) (fun _ _ _ h => h) (Or.inl ⟨by rfl, ?_⟩) hS3 ?_
    rotate_left
    · intro wS hS; obtain ⟨q0, q1⟩ := jCells2' hS.rd.row; go_simp; (try with_reducible rfl)
    simp only [Act.put, List.getElem_toArray, List.getElem_cons_succ, List.getElem_cons_zero, List.setIfInBounds_toArray, List.set_cons_succ, List.set_cons_zero]
    refine wpAnyL_take (i := 4) (f0 := 13) (v := ?_) rfl (by decide +kernel) (by decide +kernel) (by decide +kernel) (by decide +kernel) (by decide +kernel) (fun _ _ _ h => h) (Or.inl ⟨by rfl, ?_⟩) hS3 ?_
    rotate_left
    · intro wS hS; go_simp; (try with_reducible rfl)
    simp only [Act.put, List.getElem_toArray, List.getElem_cons_succ, List.getElem_cons_zero, List.setIfInBounds_toArray, List.set_cons_succ, List.set_cons_zero]
    refine wpAnyL_take (i := 5) (f0 := 13) (v := ?_) rfl (by decide +kernel) (by decide +kernel) (by decide +kernel) (by decide +kernel) (by decide +kernel) (fun _ _ _ h => h) (Or.inl ⟨by rfl, ?_⟩) hS3 ?_
    rotate_left
    · intro wS hS; go_simp; (try with_reducible rfl)
    simp only [Act.put, List.getElem_toArray, List.getElem_cons_succ, List.getElem_cons_zero, List.setIfInBounds_toArray, List.set_cons_succ, List.set_cons_zero]
    refine wpAnyL_take (i := 6) (f0 := 13) (v := ?_) rfl (by decide +kernel) (by decide +kernel) (by decide +kernel) (by decide +kernel) (by decide +kernel) (fun _ _ _ h => h) (Or.inl ⟨by rfl, ?_⟩) hS3 ?_
    rotate_left
    · intro wS hS; go_simp; (try with_reducible rfl)
    simp only [Act.put, List.getElem_toArray, List.getElem_cons_succ, List.getElem_cons_zero, List.setIfInBounds_toArray, List.set_cons_succ, List.set_cons_zero]
    refine wpAnyL_take (i := 8) (f0 := 13) (v := ?_) rfl (by decide +kernel) (by decide +kernel) (by decide +kernel) (by decide +kernel) (by decide +kernel) (fun _ _ _ h => h) (Or.inl ⟨by rfl, ?_⟩) hS3 ?_
    rotate_left
    · intro wS hS; obtain ⟨q0, q1, q2⟩ := jCells3 hS.srow; go_simp; (try with_reducible rfl)
    simp only [Act.put, List.getElem_toArray, List.getElem_cons_succ, List.getElem_cons_zero, List.setIfInBounds_toArray, List.set_cons_succ, List.set_cons_zero]
    refine wpAnyL_one (i := 7) (by decide +kernel) (by rfl) (fun K hK => ?_)
    rw [if_pos (by rfl)]
    go_simp
    refine (pmsg_of day count root d0 d1 c0 c1 hr M HM.out w3 hS3.env).mono ?_
    rintro e w4 ⟨rfl, hx4⟩
    have hS4 : (LS br mb key l w.heap.size i A n c sig A' n' c' path) w4 := hS3.below hx4
    have hb4 := bnext hb3 hx4
    refine hK.out _ _ (Or.inr hS4) ?_
    clear hK K hS3 hb3 hx4
    try simp only [Act.put, List.getElem_toArray, List.getElem_cons_succ, List.getElem_cons_zero, List.setIfInBounds_toArray, List.set_cons_succ, List.set_cons_zero]
    refine wpAnyL_one (i := 9) (by decide +kernel) (by rfl) (fun K hK => ?_)
    rw [if_pos (by rfl)]
    go_simp
    refine (verify_of key M i A A' n n' c c' sig path w4 hS4.env HMZ.out HL.out (fun s hs => Nat.le_trans (HZ.out s hs) (by decide)) hS4.sig HL2.out (fun s hs => Nat.le_trans (HZ2.out s hs) (by decide)) hS4.path hc V HVM.out).mono ?_
    rintro e w5 ⟨rfl, hx5⟩
    have hS5 : (LS br mb key l w.heap.size i A n c sig A' n' c' path) w5 := hS4.below hx5
    have hb5 := bnext hb4 hx5
    refine hK.out _ _ (Or.inr hS5) ?_
    clear hK K hS4 hb4 hx5
    try simp only [Act.put, List.getElem_toArray, List.getElem_cons_succ, List.getElem_cons_zero, List.setIfInBounds_toArray, List.set_cons_succ, List.set_cons_zero]
    refine wpAnyL_take (i := 10) (f0 := 13) (v := ?_) rfl (by decide +kernel) (by decide +kernel) (by decide +kernel) (by decide +kernel) (by decide +kernel) (fun _ _ _ h => h) (Or.inl ⟨by rfl, ?_⟩) hS5 ?_
    rotate_left
    · intro wS hS; go_simp; (try with_reducible rfl)
    simp only [Act.put, List.getElem_toArray, List.getElem_cons_succ, List.getElem_cons_zero, List.setIfInBounds_toArray, List.set_cons_succ, List.set_cons_zero]
    refine wpAnyL_done (by decide +kernel) ?_ _
    refine NoPanic.normal ?_
    cases V with
    | false =>
      have E9 := hide (learnE_key (l := l) HOK.out)
      go_wp2
      go_ret
      exact ⟨ret_err (by have := E9.out; rw [HE.out] at this; injection this with this _; exact this.symm), hfin.out _ hb5 hS5 (by rw [E9.out])⟩
    | true =>
      go_upto_region 6 with (fail)
      have kx5 := Below.news (Below.refl w5.heap.size w5) (.cells #[.int .i64 count, .string root] 94)
      have kr5 := heap_alloc_new w5 (.cells #[.int .i64 count, .string root] 94)
      have kS5 := hS5.below kx5
      have kb5 := bnext hb5 kx5
      clear hS5 hb5 kx5
      generalize w5.alloc (.cells #[.int .i64 count, .string root] 94) = k5 at *
      generalize w5.heap.size = b5 at *
      obtain ⟨hlk1, hlk2⟩ := days_look kS5.rd.map day d0 d1
      obtain ⟨q0, q1⟩ := jCells2' kS5.rd.row
      cases hf : foundD l day with
      | none =>
        have hrun := hlk2 hf
        have E9 := hide (learnE_new HOK.out hf)
        clear hlk1 hlk2 hf
        go_upto_region 7 with (fail)
        have kx6 := Below.news (Below.refl k5.heap.size k5) (.cells #[.int .i64 0, .string ⟨#[]⟩] 94)
        have kr6 := heap_alloc_new k5 (.cells #[.int .i64 0, .string ⟨#[]⟩] 94)
        obtain ⟨y0, y1⟩ := jCells2' kr6
        obtain ⟨z0, z1⟩ := jCells2' (iNext kr5 kx6)
        have kS6 := kS5.below kx6
        have kr56 := iNext kr5 kx6
        have kb6 := bnext kb5 kx6
        clear kS5 kb5 kx6 hrun q0 q1 kr5
        generalize k5.alloc (.cells #[.int .i64 0, .string ⟨#[]⟩] 94) = k6 at *
        go_upto_region 9 with (fail)
        clear y0 y1 z0 z1 kr6
        refine wp_region_noPanic ?_
        refine wp_region_L (fun X_ : World => (LS br mb key l w.heap.size i A n c sig A' n' c' path) X_ ∧ X_.heap[b5]? = some (.cells #[.int .i64 count, .string root] 94 (0, 0))) 6 hmx ?_
        have hdr := (Below.refl k6.heap.size k6).drew
        have kS7 : (fun X_ : World => (LS br mb key l w.heap.size i A n c sig A' n' c' path) X_ ∧ X_.heap[b5]? = some (.cells #[.int .i64 count, .string root] 94 (0, 0))) k6.drew := ⟨kS6.below hdr, iNext kr56 hdr⟩
        have kb7 := bnext kb6 hdr
        clear hdr kS6 kb6 kr56
        generalize k6.drew = k7 at *
        refine wpAnyL_take (i := 0) (f0 := 9) (v := ?_) rfl (by decide +kernel) (by decide +kernel) (by decide +kernel) (by decide +kernel) (by decide +kernel) (fun _ _ _ h => h) (Or.inl ⟨by rfl, ?_⟩) kS7 ?_
        rotate_left
        · intro wS hS; go_simp; (try with_reducible rfl)
        simp only [Act.put, List.getElem_toArray, List.getElem_cons_zero, List.setIfInBounds_toArray, List.set_cons_succ, List.set_cons_zero]
        refine wpAnyL_take (i := 1) (f0 := 9) (v := ?_) rfl (by decide +kernel) (by decide +kernel) (by decide +kernel) (by decide +kernel) (by decide +kernel) (fun _ _ _ h => h) (Or.inl ⟨by rfl, ?_⟩) kS7 ?_
        rotate_left
        · intro wS hS; go_simp; (try with_reducible rfl)
        simp only [Act.put, List.getElem_toArray, List.getElem_cons_succ, List.getElem_cons_zero, List.setIfInBounds_toArray, List.set_cons_succ, List.set_cons_zero]
        refine wpAnyL_take (i := 2) (f0 := 9) (v := ?_) rfl (by decide +kernel) (by decide +kernel) (by decide +kernel) (by decide +kernel) (by decide +kernel) (fun _ _ _ h => h) (Or.inl ⟨by rfl, ?_⟩) kS7 ?_
        rotate_left
        · intro wS hS; go_simp; (try with_reducible rfl)
        simp only [Act.put, List.getElem_toArray, List.getElem_cons_succ, List.getElem_cons_zero, List.setIfInBounds_toArray, List.set_cons_succ, List.set_cons_zero]
        refine wpAnyL_take (i := 3) (f0 := 9) (v := ?_) rfl (by decide +kernel) (by decide +kernel) (by decide +kernel) (by decide +kernel) (by decide +kernel) (fun _ _ _ h => h) (Or.inl ⟨by rfl, ?_⟩) kS7 ?_
        rotate_left
        · intro wS hS; obtain ⟨q0, q1⟩ := jCells2' hS.1.rd.row; go_simp; (try with_reducible rfl)
        simp only [Act.put, List.getElem_toArray, List.getElem_cons_succ, List.getElem_cons_zero, List.setIfInBounds_toArray, List.set_cons_succ, List.set_cons_zero]
        refine wpAnyL_take (i := 4) (f0 := 9) (v := ?_) rfl (by decide +kernel) (by decide +kernel) (by decide +kernel) (by decide +kernel) (by decide +kernel) (fun _ _ _ h => h) (Or.inl ⟨by rfl, ?_⟩) kS7 ?_
        rotate_left
        · intro wS hS; go_simp; (try with_reducible rfl)
        simp only [Act.put, List.getElem_toArray, List.getElem_cons_succ, List.getElem_cons_zero, List.setIfInBounds_toArray, List.set_cons_succ, List.set_cons_zero]
        refine wpAnyL_take (i := 5) (f0 := 9) (v := ?_) rfl (by decide +kernel) (by decide +kernel) (by decide +kernel) (by decide +kernel) (by decide +kernel) (fun _ _ _ h => h) (Or.inl ⟨by rfl, ?_⟩) kS7 ?_
        rotate_left
        · intro wS hS; obtain ⟨q0, q1⟩ := jCells2' hS.2; go_simp; (try with_reducible rfl)
        simp only [Act.put, List.getElem_toArray, List.getElem_cons_succ, List.getElem_cons_zero, List.setIfInBounds_toArray, List.set_cons_succ, List.set_cons_zero]
        refine wpAnyL_one (i := 6) (by decide +kernel) (by rfl) (fun K hK => ?_)
        rw [if_pos (by rfl)]
        obtain ⟨k8, krun8, kM8, kg8⟩ := World.ownsMap.update (w := k7) kS7.1.rd.map lawIntP Tryz.underlying86 (by unfold maxLen; omega) (key_intP day d0 d1) (rLe_mk count root)
        go_simp
        refine hK.out _ _ (Or.inl (by decide +kernel)) ?_
        clear hK K
        try simp only [Act.put, List.getElem_toArray, List.getElem_cons_succ, List.getElem_cons_zero, List.setIfInBounds_toArray, List.set_cons_succ, List.set_cons_zero]
        refine wpAnyL_done (by decide +kernel) ?_ _
        refine NoPanic.normal ?_
        have hfin2 : Rd br mb key ((day, count, root) :: l) k8 := ⟨(kg8.block br (lt_of_block kS7.1.rd.row) (fun e => kS7.1.rd.ne (by injection e))).trans kS7.1.rd.row, kM8, kS7.1.rd.ne⟩
        have hoff : Off [mb] w k8 := (Off.of_below (S := [mb]) kb7).trans (T := [mb]) (Off.of_grown kg8 (fun j hj => by cases hj; simp)) (fun g hg => Or.inl hg)
        have HF := hide hfin2; have HO := hide hoff
        clear hfin2 hoff kS7 kb7 kM8 kg8 krun8
        go_wp2
        go_ret
        exact ⟨ret_err (by have := E9.out; rw [HE.out] at this; injection this with this _; exact this.symm), by have := E9.out; rw [HE.out] at this; injection this with _ this; rw [this]; exact HF.out, HO.out⟩
      | some p =>
        obtain ⟨cc, rr⟩ := p
        have hrun := hlk1 cc rr hf
        have hneq : ∀ wx, (binOp .neq 94 (.agg #[.int .i64 cc, .string rr]) (.agg #[.int .i64 count, .string root])).run Tryz.prog wx = .ok (.bool (!((cc == count) && (rr.toList == root.toList)))) wx := fun wx => learnt_run wx cc count rr root
        have hqg : Tryz.prog.eqGuardType Tryz.prog.depth 94 = false := by kernel_rfl
        by_cases hsame : cc = count ∧ rr = root
        · have hbb : ((cc == count) && (rr.toList == root.toList)) = true := by rw [beq_iff_eq.2 hsame.1, bs_yes hsame.2]; rfl
          rw [hbb] at hneq
          obtain ⟨rfl, rfl⟩ := hsame
          have E9 := hide (learnE_same HOK.out hf)
          clear hlk1 hlk2 hf hbb
          go_upto_region 7 with (fail)
          have kx6 := Below.news (Below.refl k5.heap.size k5) (.cells #[.int .i64 cc, .string rr] 94)
          have kr6 := heap_alloc_new k5 (.cells #[.int .i64 cc, .string rr] 94)
          obtain ⟨y0, y1⟩ := jCells2' kr6
          obtain ⟨z0, z1⟩ := jCells2' (iNext kr5 kx6)
          have kS6 := kS5.below kx6
          have kr56 := iNext kr5 kx6
          have kb6 := bnext kb5 kx6
          clear kS5 kb5 kx6 hrun q0 q1 kr5
          generalize k5.alloc (.cells #[.int .i64 cc, .string rr] 94) = k6 at *
          go_upto_region 9 with (fail)
          clear y0 y1 z0 z1 kr6
          refine wp_region_noPanic ?_
          refine wp_region_L (fun X_ : World => (LS br mb key l w.heap.size i A n c sig A' n' c' path) X_ ∧ X_.heap[b5]? = some (.cells #[.int .i64 cc, .string rr] 94 (0, 0))) 6 hmx ?_
          have hdr := (Below.refl k6.heap.size k6).drew
          have kS7 : (fun X_ : World => (LS br mb key l w.heap.size i A n c sig A' n' c' path) X_ ∧ X_.heap[b5]? = some (.cells #[.int .i64 cc, .string rr] 94 (0, 0))) k6.drew := ⟨kS6.below hdr, iNext kr56 hdr⟩
          have kb7 := bnext kb6 hdr
          clear hdr kS6 kb6 kr56
          generalize k6.drew = k7 at *
          refine wpAnyL_take (i := 0) (f0 := 9) (v := ?_) rfl (by decide +kernel) (by decide +kernel) (by decide +kernel) (by decide +kernel) (by decide +kernel) (fun _ _ _ h => h) (Or.inl ⟨by rfl, ?_⟩) kS7 ?_
          rotate_left
          · intro wS hS; go_simp; (try with_reducible rfl)
          simp only [Act.put, List.getElem_toArray, List.getElem_cons_zero, List.setIfInBounds_toArray, List.set_cons_succ, List.set_cons_zero]
          refine wpAnyL_take (i := 1) (f0 := 9) (v := ?_) rfl (by decide +kernel) (by decide +kernel) (by decide +kernel) (by decide +kernel) (by decide +kernel) (fun _ _ _ h => h) (Or.inl ⟨by rfl, ?_⟩) kS7 ?_
          rotate_left
          · intro wS hS; go_simp; (try with_reducible rfl)
          simp only [Act.put, List.getElem_toArray, List.getElem_cons_succ, List.getElem_cons_zero, List.setIfInBounds_toArray, List.set_cons_succ, List.set_cons_zero]
          refine wpAnyL_take (i := 2) (f0 := 9) (v := ?_) rfl (by decide +kernel) (by decide +kernel) (by decide +kernel) (by decide +kernel) (by decide +kernel) (fun _ _ _ h => h) (Or.inl ⟨by rfl, ?_⟩) kS7 ?_
          rotate_left
          · intro wS hS; go_simp; (try with_reducible rfl)
          simp only [Act.put, List.getElem_toArray, List.getElem_cons_succ, List.getElem_cons_zero, List.setIfInBounds_toArray, List.set_cons_succ, List.set_cons_zero]
          refine wpAnyL_take (i := 3) (f0 := 9) (v := ?_) rfl (by decide +kernel) (by decide +kernel) (by decide +kernel) (by decide +kernel) (by decide +kernel) (fun _ _ _ h => h) (Or.inl ⟨by rfl, ?_⟩) kS7 ?_
          rotate_left
          · intro wS hS; obtain ⟨q0, q1⟩ := jCells2' hS.1.rd.row; go_simp; (try with_reducible rfl)
          simp only [Act.put, List.getElem_toArray, List.getElem_cons_succ, List.getElem_cons_zero, List.setIfInBounds_toArray, List.set_cons_succ, List.set_cons_zero]
          refine wpAnyL_take (i := 4) (f0 := 9) (v := ?_) rfl (by decide +kernel) (by decide +kernel) (by decide +kernel) (by decide +kernel) (by decide +kernel) (fun _ _ _ h => h) (Or.inl ⟨by rfl, ?_⟩) kS7 ?_
          rotate_left
          · intro wS hS; go_simp; (try with_reducible rfl)
          simp only [Act.put, List.getElem_toArray, List.getElem_cons_succ, List.getElem_cons_zero, List.setIfInBounds_toArray, List.set_cons_succ, List.set_cons_zero]
          refine wpAnyL_take (i := 5) (f0 := 9) (v := ?_) rfl (by decide +kernel) (by decide +kernel) (by decide +kernel) (by decide +kernel) (by decide +kernel) (fun _ _ _ h => h) (Or.inl ⟨by rfl, ?_⟩) kS7 ?_
          rotate_left
          · intro wS hS; obtain ⟨q0, q1⟩ := jCells2' hS.2; go_simp; (try with_reducible rfl)
          simp only [Act.put, List.getElem_toArray, List.getElem_cons_succ, List.getElem_cons_zero, List.setIfInBounds_toArray, List.set_cons_succ, List.set_cons_zero]
          refine wpAnyL_one (i := 6) (by decide +kernel) (by rfl) (fun K hK => ?_)
          rw [if_pos (by rfl)]
          obtain ⟨k8, krun8, kM8, kg8⟩ := World.ownsMap.update (w := k7) kS7.1.rd.map lawIntP Tryz.underlying86 (by unfold maxLen; omega) (key_intP day d0 d1) (rLe_mk cc rr)
          go_simp
          refine hK.out _ _ (Or.inl (by decide +kernel)) ?_
          clear hK K
          try simp only [Act.put, List.getElem_toArray, List.getElem_cons_succ, List.getElem_cons_zero, List.setIfInBounds_toArray, List.set_cons_succ, List.set_cons_zero]
          refine wpAnyL_done (by decide +kernel) ?_ _
          refine NoPanic.normal ?_
          have hfin2 : Rd br mb key ((day, cc, rr) :: l) k8 := ⟨(kg8.block br (lt_of_block kS7.1.rd.row) (fun e => kS7.1.rd.ne (by injection e))).trans kS7.1.rd.row, kM8, kS7.1.rd.ne⟩
          have hoff : Off [mb] w k8 := (Off.of_below (S := [mb]) kb7).trans (T := [mb]) (Off.of_grown kg8 (fun j hj => by cases hj; simp)) (fun g hg => Or.inl hg)
          have HF := hide hfin2; have HO := hide hoff
          clear hfin2 hoff kS7 kb7 kM8 kg8 krun8
          go_wp2
          go_ret
          exact ⟨ret_err (by have := E9.out; rw [HE.out] at this; injection this with this _; exact this.symm), by have := E9.out; rw [HE.out] at this; injection this with _ this; rw [this]; exact HF.out, HO.out⟩
        · have hbb : ((cc == count) && (rr.toList == root.toList)) = false := by
            by_cases e1 : cc = count
            · rw [bs_no (fun e2 => hsame ⟨e1, e2⟩), Bool.and_false]
            · rw [beq_eq_false_iff_ne.2 e1, Bool.false_and]
          rw [hbb] at hneq
          have E9 := hide (learnE_fork HOK.out hf hsame)
          have hc5 := jCells2' kr5
          obtain ⟨z0, z1⟩ := hc5
          clear hlk1 hlk2 hf hbb hsame
          go_upto_region 7 with (fail)
          have kx6 := Below.news (Below.refl k5.heap.size k5) (.cells #[.int .i64 cc, .string rr] 94)
          have kr6 := heap_alloc_new k5 (.cells #[.int .i64 cc, .string rr] 94)
          obtain ⟨y0, y1⟩ := jCells2' kr6
          obtain ⟨z0, z1⟩ := jCells2' (iNext kr5 kx6)
          have kS6 := kS5.below kx6
          have kb6 := bnext kb5 kx6
          clear kS5 kb5 kx6 hrun q0 q1
          go_wp2
          go_ret
          exact ⟨ret_err (by have := E9.out; rw [HE.out] at this; injection this with this _; exact this.symm), hfin.out _ kb6 kS6 (by rw [E9.out])⟩
end Go.Proofs.YtobhpeockinnjaaGreatDoor
/- The iterator over a reader's days. No conditions but those that each theorem states. -/
namespace Go.Proofs.YtobhpeockinnjaaGreatDoor
open Go Go.RowKit Go.Sort Go.Maps
def mkLe (p : Int × ByteArray) : Value := .agg #[.int .i64 p.1, .string p.2]
theorem rLe_any {v : Value} {y : DataW Unit × List MemPlace} (h : rLe v = some y) : ∃ c, v = mkLe c := by
  unfold rLe at h
  split at h
  · rename_i a s
    exact ⟨(a, s), rfl⟩
  · cases h
set_option maxRecDepth 100000 in
set_option maxHeartbeats 1000000 in
theorem days1_in (n : Nat) (hn : 2 ≤ n) (l Bm br mb nn : Nat) (_key : ByteArray) (D0 : DataW Unit) (J Jx : List Int → World → Prop)
    (hY : ∀ pre x W, J pre W → pre.length < Maps.size D0 → YieldAt Fence.wide (n - 1) Tryz.prog l #[encZ x] W fun e W' =>
      (e = .returned (.bool true) ∧ J (pre ++ [x]) W' ∧ KeepsWalks W W') ∨ (e = .returned (.bool false) ∧ Jx (pre ++ [x]) W'))
    (W : World) (hJ : AbidesFrom W.heap.size J) (hm : W.cell? ⟨Bm, 0, none⟩ = some (.pointer (some ⟨br, 0, none⟩))) (hr : W.cell? ⟨br, 1, none⟩ = some (.map (some mb)))
    (hown : W.ownsMap Tryz.prog 3 rLe mb nn D0) (h0 : J [] W) :
    CallsIn Fence.wide n Tryz.prog 107 #[.func (.yield l) #[] #[], .pointer (some ⟨Bm, 0, none⟩)] W fun e W' => (∃ v, e = .returned v) ∧
      ((∃ ss : List Int, (ss.Perm (intKeys D0) ∧ ∀ x, x ∈ ss ↔ has D0 (.int .i64 x) = true) ∧ J ss W') ∨ (∃ pre : List Int, True ∧ Jx pre W')) := by
  refine callsIn_of_wp Tryz.func107 rfl trivial ?_ rfl
  simp only [Tryz.ntmps107, List.size_toArray, List.length_cons, List.length_nil, Nat.reduceAdd, Nat.reduceSub, Array.replicate_succ, Array.replicate_zero, List.push_toArray, List.append_toArray, List.nil_append, List.cons_append]
  gi_wp2_with (first
    | (gi_at_range; refine wpListIn_range_own _ rfl _ 86 rfl 3 94 lawIntP Tryz.underlying86 _ mb nn _ rfl hown ?_; intro w0 hrg0 hg0 hs0)
    | gi_in)
  go_frame
  gi_loopw [3] (fun _ wr => ∃ (left : Lit → Bool) (cnt : Nat) (ss : List Int), wr.ranges Tryz.prog 3 rLe mb W.heap.size nn D0 left cnt ∧ ss.length + cnt ≤ Maps.size D0 ∧ CollectedI D0 left ss ∧ J ss wr)
    (fun _ wr => wr.rangeLeft mb W.heap.size)
  case atStart =>
    exact ⟨_, _, [], hrg0, by simp, CollectedI.start D0, hJ [] W w0 none h0 hg0 (fun r e => by cases e)⟩
  case round =>
    obtain ⟨left, cnt, ss, hrg, hcs, hC, hJs⟩ := hrel
    gi_wp2_with (first
      | (gi_at_next; refine wpListIn_next_ranges _ rfl _ rfl 3 lawIntP rLe encZ mkLe (fun key kl hk => by obtain ⟨x, hx, _⟩ := Maps.keyOf_i64 Tryz.underlying3 hk; exact ⟨x, hx⟩) (fun v y hv => rLe_any hv) mb W.heap.size nn _ _ _ rfl hrg ?_ ?_)
      | gi_in)
    · intro hc0 hl0
      gi_wp2
      go_end0
      exact ⟨⟨_, rfl⟩, .inl ⟨ss, ⟨hC.perm hown lawIntP Tryz.underlying3 hl0, fun x => by rw [hC.2 x, hl0]; simp⟩, hJs⟩⟩
    · intro x c1 c2 kl yd yp w2 cnt2 hkey hlk hv hat hrg2 hlt hg2 hs2 hen
      obtain ⟨x', ex, rfl, _⟩ := Maps.keyOf_i64 Tryz.underlying3 hkey
      obtain rfl : x = x' := encZ_inj ex
      have hJ2 : J ss w2 := hJ ss wr w2 (some W.heap.size) hJs hg2 (fun r e => by cases e; exact ⟨Nat.le_refl _, hrg.iter_walk⟩)
      obtain ⟨fn, tmps, assign, body, hy, hR⟩ := hY ss x w2 hJ2 (by omega)
      clear hs2
      gi_wp2
      refine ⟨fun _ => by omega, ?_⟩
      refine hR.mono ?_
      have hC2 := hC.step hlk hat
      rintro e W3 (⟨rfl, hJ3, hk3⟩ | ⟨rfl, hJx3⟩)
      · gi_wp2
        have hrg3 := hrg2.of_walks hk3
        go_roundw
        case rel => exact ⟨_, cnt2, ss ++ [x], hrg3, by simp; omega, hC2, hJ3⟩
        case measure => rw [hrg3.left_eq, hrg.left_eq]; exact hlt
      · gi_wp2
        refine bodyPost_ret (results_none rfl _ _ _) rfl ?_
        exact ⟨⟨_, rfl⟩, .inr ⟨ss ++ [x], trivial, hJx3⟩⟩
theorem days_stops (n : Nat) (hn : 2 ≤ n) (Bm br mb nn : Nat) (key : ByteArray) (D0 : DataW Unit) (w : World) (hBm : Bm < w.heap.size) (hbr : br < w.heap.size) (hm : w.cell? ⟨Bm, 0, none⟩ = some (.pointer (some ⟨br, 0, none⟩))) (hr : w.cell? ⟨br, 1, none⟩ = some (.map (some mb)))
    (hown : w.ownsMap Tryz.prog 3 rLe mb nn D0) :
    SeqStopsK Fence.wide n Tryz.prog 107 #[.pointer (some ⟨Bm, 0, none⟩)] (fun x : Int => #[encZ x]) KeepsWalks (fun ss => ss.Perm (intKeys D0) ∧ ∀ x, x ∈ ss ↔ has D0 (.int .i64 x) = true) (fun _ => True) (Maps.size D0) w := fun l J Jx W hW hJ _ hY h0 => by
  have hown' : W.ownsMap Tryz.prog 3 rLe mb nn D0 := ownsMap_off (S := []) hown (Off.of_below hW) (by simp)
  exact days1_in n hn l Bm br mb nn key D0 J Jx hY W hJ ((hW.cell (p := ⟨Bm, 0, none⟩) hBm).trans hm) ((hW.cell (p := ⟨br, 1, none⟩) hbr).trans hr) hown' h0
end Go.Proofs.YtobhpeockinnjaaGreatDoor
/- Days of package proof. No conditions but those that each theorem states. -/
namespace Go.Proofs.YtobhpeockinnjaaGreatDoor
open Go Go.RowKit Go.Sort Go.Maps
attribute [local go_sem] Oper.semAt_some
theorem intInfo : (Tryz.prog.info? 3).map (fun i => (i.zero, i.size, i.bytes)) = some (some (.int .i64 0), 1, 8) := by kernel_rfl
theorem all_of (br : Nat) (w : World) :
    Calls Tryz.prog 61 #[.pointer (some ⟨br, 0, none⟩)] w fun e w' => e = .returned (.func (.func 107) #[] #[.pointer (some ⟨w.heap.size, 0, none⟩)]) ∧ w' = w.alloc (.cells #[.pointer (some ⟨br, 0, none⟩)] 47) := by
  have hmf : ∀ (fn : Fn) (first cap : Array Value) (w : World), (Instr.makeFunc fn first cap).run Tryz.prog w = .ok (.func fn first cap) w := fun _ _ _ _ => rfl
  go_enter Tryz.func61, Tryz.ntmps61
  go_wp2
  go_ret
  exact ⟨rfl, rfl⟩
/-- The days in order. -/
noncomputable def daysS (l : List Dy) : List Int := (intKeys (daysD l)).mergeSort fun x y => decide (x ≤ y)
/-- A slice of whole numbers. -/
structure Zs (w : World) (B : Nat) (A : Option Addr) (l : List Int) : Prop where
  at_ : 0 < l.length → ∃ b off, A = some ⟨b, off, none⟩ ∧ b < B ∧ ∀ (j : Nat) (s : Int), l[j]? = some s → w.cell? ⟨b, off + j, none⟩ = some (.int .i64 s)
theorem Zs.nil (w : World) (B : Nat) (A : Option Addr) : Zs w B A [] := ⟨fun h => by simp at h⟩
theorem Zs.keep {w w' : World} {A : Option Addr} {l : List Int} (h : Zs w w.heap.size A l) (hb : Below w.heap.size w w') : Zs w' w'.heap.size A l :=
  ⟨fun hl => by
    obtain ⟨b, off, e, hlt, hc⟩ := h.at_ hl
    exact ⟨b, off, e, Nat.lt_of_lt_of_le hlt hb.size, fun j s hj => (hb.cell (p := ⟨b, off + j, none⟩) hlt).trans (hc j s hj)⟩⟩
theorem daysS_perm {l : List Dy} {ys : List Int} (h : ys.Perm (intKeys (daysD l))) : (ys.mergeSort fun x y => decide (x ≤ y)) = daysS l := mergeSort_of_perm_i h
/-- slices.Sort of whole numbers of the call's own. -/
theorem sort_any (B : Nat) (v : Value) (l : List Int) (w : World) (h : w.ownsRow B 3 1 v l.length (l.map (Value.int .i64))) (hB : B ≤ w.heap.size) (hl : l.length ≤ 1048576) :
    Calls Tryz.prog 62 #[v] w fun e w' => e = .returned (.tuple #[]) ∧ ((l = [] ∧ v = .slice none 0 0) ∨ ∃ g c, v = .slice (some ⟨g, 0, none⟩) l.length c ∧ g < w'.heap.size ∧ ∀ (j : Nat) (s : Int), (l.mergeSort fun x y => decide (x ≤ y))[j]? = some s → w'.cell? ⟨g, j, none⟩ = some (.int .i64 s)) ∧ Below B w w' ∧ ∀ k, k < w.heap.size → v.ownBlock ≠ some k → w'.heap[k]? = w.heap[k]? := by
  rcases h.2 with ⟨rfl, h0⟩ | ⟨g, cap, cur, rfl, hBg, hg, hc, hm, hcs, htk⟩
  · obtain rfl : l = [] := List.eq_nil_of_length_eq_zero h0
    refine (Tryz.slices_Sort_int_none none 0 w).mono ?_
    rintro e w' ⟨rfl, rfl⟩
    exact ⟨rfl, Or.inl ⟨rfl, rfl⟩, Below.refl _ _, fun _ _ _ => rfl⟩
  · have hlt := lt_of_block hg
    have hcell : ∀ j (s : Int), l[j]? = some s → w.cell? ⟨g, 0 + j, none⟩ = some (.int .i64 s) := fun j s hj => by
      rw [Nat.zero_add, cell_of_row _ _ _ _ _ (0, 0) hg, ← Array.getElem?_toList]
      have h1 : (l.map (Value.int .i64))[j]? = some (.int .i64 s) := by rw [List.getElem?_map, hj]; rfl
      rw [← htk, List.getElem?_take] at h1
      split at h1
      · exact h1
      · cases h1
    have hH : Holds (Value.int .i64) w g 0 l.toArray := fun j hj => by
      have hj' : j < l.length := by simpa using hj
      refine ⟨?_, frozen_of_row _ _ _ _ _ hg⟩
      rw [hcell j l[j] (List.getElem?_eq_getElem hj'), getElem!_pos l.toArray j hj]
      simp
    refine (Tryz.slices_Sort_int g 0 cap l w hH hlt (by omega)).mono ?_
    rintro e w' ⟨rfl, n, os, rfl⟩
    have hsz : (l.mergeSort fun x y => decide (x ≤ y)).toArray.size = l.toArray.size := by simp
    refine ⟨rfl, Or.inr ⟨g, cap, rfl, ?_, fun j s hj => ?_⟩, ?_, fun k hk hne => ?_⟩
    · show g < ((putRow (Value.int .i64) (Sort.ahead w n) g 0 _).heap ++ os).size
      rw [Array.size_append, size_putRow]
      exact Nat.lt_of_lt_of_le hlt (Nat.le_add_right _ _)
    · have hjl : j < (l.mergeSort fun x y => decide (x ≤ y)).toArray.size := by
        rw [List.size_toArray]; exact (List.getElem?_eq_some_iff.1 hj).1
      have h1 := (holds_putRow (Value.int .i64) (Sort.ahead w n) g 0 l.toArray (l.mergeSort fun x y => decide (x ≤ y)).toArray (holds_ahead _ _ _ _ _ _ hH) hsz j hjl).1
      rw [Nat.zero_add] at h1
      have h2 : (l.mergeSort fun x y => decide (x ≤ y)).toArray[j]! = s := by
        rw [getElem!_pos _ j hjl]
        have := (List.getElem?_eq_some_iff.1 hj).2
        simpa using this
      rw [h2] at h1
      refine (World.cell?_of_block ?_).trans h1
      show ((putRow (Value.int .i64) (Sort.ahead w n) g 0 _).heap ++ os)[g]? = _
      rw [Array.getElem?_append_left (by rw [size_putRow]; exact hlt)]
    · refine ⟨rfl, rfl, rfl, ?_, fun k hk => ?_⟩
      · show w.heap.size ≤ ((putRow (Value.int .i64) (Sort.ahead w n) g 0 _).heap ++ os).size
        rw [Array.size_append, size_putRow]
        exact Nat.le_add_right _ _
      · show ((putRow (Value.int .i64) (Sort.ahead w n) g 0 _).heap ++ os)[k]? = w.heap[k]?
        rw [Array.getElem?_append_left (by rw [size_putRow]; show k < w.heap.size; omega)]
        show (w.heap.modify g _)[k]? = _
        rw [Array.getElem?_modify, if_neg (by omega)]
    · show ((putRow (Value.int .i64) (Sort.ahead w n) g 0 _).heap ++ os)[k]? = w.heap[k]?
      rw [Array.getElem?_append_left (by rw [size_putRow]; exact hk)]
      show (w.heap.modify g _)[k]? = _
      rw [Array.getElem?_modify, if_neg (fun e => hne (by rw [e]; rfl))]
theorem pdays_nil (w : World) : Calls Tryz.prog 29 #[.pointer none] w fun e w' => e = .returned (.slice none 0 0) ∧ Below w.heap.size w w' := by
  go_enter Tryz.func29, Tryz.ntmps29
  go_wp2
  go_ret
  exact ⟨rfl, Below.refl _ _⟩
set_option maxRecDepth 100000 in
set_option maxHeartbeats 2000000 in
theorem pdays_of (br mb : Nat) (key : ByteArray) (l : List Dy) (hl : l.length ≤ 1048576) (w : World) (hR : Rd br mb key l w) :
    Calls Tryz.prog 29 #[.pointer (some ⟨br, 0, none⟩)] w fun e w' => (∃ A c, e = .returned (.slice A (daysS l).length c) ∧ Zs w' w'.heap.size A (daysS l)) ∧ Below w.heap.size w w' := by
  obtain ⟨i0, hi, hz0, hz1, hz2⟩ := info_parts intInfo
  have hbr := lt_of_block hR.row
  have hmb := hR.map.lt
  have hsl := hR.map.size_le
  refine (callsIn_wide (n := 5)).1 ?_
  refine callsIn_of_wp_marks Tryz.func29 rfl trivial ?_ rfl
  simp only [Tryz.ntmps29, List.size_toArray, List.length_cons, List.length_nil, Nat.reduceAdd, Nat.reduceSub, Array.replicate_succ, Array.replicate_zero, List.push_toArray, List.append_toArray, List.nil_append, List.cons_append]
  gi_wp2_with (refine ⟨trivial, ?_⟩; gi_at_call 61; refine (callsIn_wide.2 (all_of br _)).mono ?_; rintro e w' ⟨rfl, rfl⟩)
  have bO := Boxed.new w 54 (.slice none 0 0)
  have bN := Boxed.new (w.alloc (.cells #[.slice none 0 0] 54)) 47 (.pointer (some ⟨br, 0, none⟩))
  rw [World.size_alloc] at bN
  have hB0 : Below w.heap.size w ((w.alloc (.cells #[.slice none 0 0] 54)).alloc (.cells #[.pointer (some ⟨br, 0, none⟩)] 47)) := ((Below.refl _ w).alloc (Nat.le_refl _) _).alloc (by simp) _
  have hR0 := hR.below hB0
  refine wpIn_rangeFunc_ownG (n := 5) rfl (by omega) (gf := 107) (lb := #[.pointer (some ⟨w.heap.size + 1, 0, none⟩)]) rfl trivial (enters_of Tryz.func107 (by kernel_rfl) rfl)
    (days_stops 4 (by omega) (w.heap.size + 1) br mb l.length key (daysD l) _ (by simp) (by simp; omega) bN.cell (jCells2' hR0.row).2 hR0.map) walksK_t walksK_b (Below.refl _ _) (fun _ => rfl)
    (fun pre W => (∃ v, Boxed W w.heap.size 54 v ∧ W.ownsRow w.heap.size 3 1 v pre.length (pre.map (Value.int .i64)) ∧ (v = .slice none 0 0 ↔ pre = [])) ∧ Below w.heap.size w W)
    (fun _ _ _ => False)
    (OwnFrom.and (Own.from (holdsRow_own w.heap.size w.heap.size 54 3 1 (fun pre => pre.length) (fun pre => pre.map (Value.int .i64)) (fun pre v => v = .slice none 0 0 ↔ pre = [])) _) (ownFrom_below (Nat.le_refl _) (by simp; omega)))
    (fun _ _ _ _ _ hs _ _ => hs)
    ⟨⟨_, bO.alloc _, World.ownsRow_nil _ _ _ _, by simp⟩, hB0⟩
    ?a1 ?assign ?body ?done ?stop
  case assign =>
    intro l x W K hK
    simp only [encZ]
    gi_wp2
    exact hK
  case body =>
    rintro l pre x W ⟨⟨v, hv, hrow, hnil⟩, hB⟩ hlt
    have hc := hv.cell
    gi_wp2_with (gi_at_builtin; refine wpListIn_append_own _ rfl _ _ 54 rfl w.heap.size 3 i0 (.int .i64 0) 1 8 Tryz.underlying54 hi hz0 hz1 hz2 rfl (by decide) _ _ _ rfl (hrow.alloc _) ⟨W.heap.size, 0, none⟩ 1 1 [.int .i64 x] rfl rfl (cell_one_new _ _ _) (by simp [Value.oneCell']) (by unfold maxLen; omega) (by omega) (by have := hB.size; simp; omega) ?_; intro v' w1 hown' hgrow _; obtain ⟨g', cap', rfl⟩ := ownsRow_succ hown'; obtain ⟨hv1, hv2, hr2, hk2, hb2⟩ := hv.appended (by decide) hrow hB.size (Nat.le_refl _) hown' hgrow; have hc1 := hv1.cell; have hf1 := hv1.frozen)
    exact ⟨hk2.from _, hk2.walks, ⟨_, hv2, by simpa using hr2, by simp⟩, hB.trans hb2⟩
  case done =>
    rintro D ys W hD ⟨hperm, hmem⟩ ⟨⟨v, hv, hrow, hnil⟩, hB⟩ hK
    have hc := hv.cell
    have hlen : ys.length ≤ 1048576 := by
      rw [hperm.length_eq]
      have h9 : (intKeys (daysD l)).length = Maps.size (daysD l) := by cases daysD l <;> simp [intKeys, Maps.size]
      omega
    have hD0 : v.ownBlock ≠ some D := fun e => by
      rcases hrow.2 with ⟨h1, _⟩ | ⟨g, cap, cur, h1, _, hg, _⟩
      · rw [h1] at e; cases e
      · rw [h1] at e
        cases e
        rw [hK] at hg
        cases hg
    have hO0 : v.ownBlock ≠ some w.heap.size := fun e => hv.not_row (by decide) hrow e.symm
    obtain ⟨A5, c5, hv5⟩ : ∃ A c, v = .slice A ys.length c := by
      rcases hrow.2 with ⟨h1, h2⟩ | ⟨g, cap, cur, h1, _⟩
      · exact ⟨none, 0, by rw [h1, h2]⟩
      · exact ⟨_, _, h1⟩
    subst hv5
    gi_wp2_with (refine ⟨trivial, ?_⟩; gi_at_call 62; refine (callsIn_wide.2 (sort_any w.heap.size _ ys W hrow hB.size hlen)).mono ?_; rintro e w3 ⟨rfl, hz, hb3, hkeep⟩; have hO3c : w3.cell? ⟨w.heap.size, 0, none⟩ = some (.slice A5 ys.length c5) := (World.cell?_of_block (hkeep _ hv.lt hO0)).trans hc)
    have hD3 : w3.heap[D]? = W.heap[D]? := hkeep _ (lt_of_block hK) hD0
    have hK3 := hD3.trans hK
    have hDg : w.heap.size < D := by simp at hD; omega
    have hB3 : Below w.heap.size w w3 := hB.trans hb3
    have hzs : ∃ A c, Value.slice A5 ys.length c5 = .slice A (daysS l).length c ∧ ((daysS l = []) ∨ ∃ g, A = some ⟨g, 0, none⟩ ∧ g < w3.heap.size ∧ g ≠ D ∧ ∀ (j : Nat) (s : Int), (daysS l)[j]? = some s → w3.cell? ⟨g, j, none⟩ = some (.int .i64 s)) := by
      have hlq : (daysS l).length = ys.length := by rw [← daysS_perm hperm, List.length_mergeSort]
      rcases hz with ⟨h1, h2⟩ | ⟨g, c, h2, h3, h4⟩
      · exact ⟨A5, c5, by rw [hlq], .inl (List.eq_nil_of_length_eq_zero (by rw [hlq, h1]; rfl))⟩
      · refine ⟨_, c, by rw [h2, hlq], .inr ⟨g, rfl, h3, fun e => hD0 (by rw [h2, ← e]; rfl), fun j s hj => h4 j s (by rw [daysS_perm hperm]; exact hj)⟩⟩
    refine ⟨by simp, .inl ⟨_, _, rfl, run_takeDeferred hK3, ?_⟩⟩
    obtain ⟨A, c, e1, e2⟩ := hzs
    rw [e1]
    refine ⟨_, results_tmp rfl _ _ _, ⟨A, c, rfl, ⟨fun h0 => ?_⟩⟩, hB3.trans (belowK_b (w := w) (Nat.le_refl _) w3 D _ _ (Nat.le_of_lt hDg) hK3 rfl rfl)⟩
    rcases e2 with e2 | ⟨g, rfl, h3, h4, h5⟩
    · rw [e2] at h0; simp at h0
    · refine ⟨g, 0, rfl, ?_, fun j s hj => ?_⟩
      · rw [World.putObj_size]; exact h3
      · rw [Nat.zero_add]
        exact (World.cell?_of_block (World.putObj_heap_other h4)).trans (h5 j s hj)
  case stop =>
    rintro D c pre W _ _ h _
    exact h.elim
end Go.Proofs.YtobhpeockinnjaaGreatDoor
/- Check of package proof. No conditions but those that each theorem states. -/
namespace Go.Proofs.YtobhpeockinnjaaGreatDoor
open Go Go.RowKit Go.Sort Go.Maps
set_option maxRecDepth 100000 in
set_option maxHeartbeats 16000000 in
theorem pcheck_of (root : ByteArray) (p : Pf) (A : Option Addr) (m c : Nat) (hm : p.path.length = m) (hm2 : m ≤ 1048576) (hps : ∀ s ∈ p.path, s.size ≤ 1048576) (hz : ∀ s ∈ leafS p.it, s.size ≤ 10000) (w : World) (he : Env w) (hS : Strs w w.heap.size A p.path) (R : Bool) (hR : checkP root p = R) :
    Calls Tryz.prog 17 #[.string root, .agg #[.int .i64 p.count, .int .i64 p.idx, .int .i64 p.it.kind, .string p.it.id, .string p.it.parent, .string p.it.number, .string p.it.north, .string p.it.south, .bool p.it.gone, .slice A m c]] w fun e w' => e = .returned (.bool R) ∧ Below w.heap.size w w' := by
  have hx1 := Below.news (Below.refl w.heap.size w) (.cells #[.int .i64 p.count, .int .i64 p.idx, .int .i64 p.it.kind, .string p.it.id, .string p.it.parent, .string p.it.number, .string p.it.north, .string p.it.south, .bool p.it.gone, .slice A m c] 29)
  have hr1 := heap_alloc_new w (.cells #[.int .i64 p.count, .int .i64 p.idx, .int .i64 p.it.kind, .string p.it.id, .string p.it.parent, .string p.it.number, .string p.it.north, .string p.it.south, .bool p.it.gone, .slice A m c] 29)
  have hx2 := Below.news (Below.refl (w.alloc (.cells #[.int .i64 p.count, .int .i64 p.idx, .int .i64 p.it.kind, .string p.it.id, .string p.it.parent, .string p.it.number, .string p.it.north, .string p.it.south, .bool p.it.gone, .slice A m c] 29)).heap.size (w.alloc (.cells #[.int .i64 p.count, .int .i64 p.idx, .int .i64 p.it.kind, .string p.it.id, .string p.it.parent, .string p.it.number, .string p.it.north, .string p.it.south, .bool p.it.gone, .slice A m c] 29))) (.cells #[.int .i64 p.it.kind, .string p.it.id, .string p.it.parent, .string p.it.number, .string p.it.north, .string p.it.south, .bool p.it.gone] 26)
  have hr2 := heap_alloc_new (w.alloc (.cells #[.int .i64 p.count, .int .i64 p.idx, .int .i64 p.it.kind, .string p.it.id, .string p.it.parent, .string p.it.number, .string p.it.north, .string p.it.south, .bool p.it.gone, .slice A m c] 29)) (.cells #[.int .i64 p.it.kind, .string p.it.id, .string p.it.parent, .string p.it.number, .string p.it.north, .string p.it.south, .bool p.it.gone] 26)
  have hs1 : (w.alloc (.cells #[.int .i64 p.count, .int .i64 p.idx, .int .i64 p.it.kind, .string p.it.id, .string p.it.parent, .string p.it.number, .string p.it.north, .string p.it.south, .bool p.it.gone, .slice A m c] 29)).heap.size = w.heap.size + 1 := by simp
  rw [hs1] at hr2
  have hb1 := bnext hx1 hx2
  have hS1 : PS w.heap.size (w.heap.size + 1) p A m c ((w.alloc (.cells #[.int .i64 p.count, .int .i64 p.idx, .int .i64 p.it.kind, .string p.it.id, .string p.it.parent, .string p.it.number, .string p.it.north, .string p.it.south, .bool p.it.gone, .slice A m c] 29)).alloc (.cells #[.int .i64 p.it.kind, .string p.it.id, .string p.it.parent, .string p.it.number, .string p.it.north, .string p.it.south, .bool p.it.gone] 26)) := ⟨iNext hr1 hx2, hr2, keepS hS hb1⟩
  have HM := hide hm; have HPS := hide hps; have HZ := hide hz; have HR := hide hR; have HE := hide he
  obtain ⟨x, hx⟩ : ∃ x, p.it = x := ⟨_, rfl⟩
  obtain ⟨P1, hP1⟩ : ∃ q, p.path = q := ⟨_, rfl⟩
  clear hr2 hx2 hs1 hS hm hps hz hR he
  have hmx : Tryz.prog.follows .mixedOrders = true := by kernel_rfl
  have hne : p.it.number.toList.isEmpty = decide (p.it.number = Dg.nil8) := (emp_iff _).symm
  obtain ⟨c0, c1, c2, c3, c4, c5, c6, c7, c8, c9⟩ := jCells10 hr1
  clear hx hP1
  go_enter Tryz.func17, Tryz.ntmps17
  go_upto_region 2 with (fail)
  clear c0 c1 c2 c3 c4 c5 c6 c7 c8 c9 hr1 hx1
  generalize (w.alloc (.cells #[.int .i64 p.count, .int .i64 p.idx, .int .i64 p.it.kind, .string p.it.id, .string p.it.parent, .string p.it.number, .string p.it.north, .string p.it.south, .bool p.it.gone, .slice A m c] 29)).alloc (.cells #[.int .i64 p.it.kind, .string p.it.id, .string p.it.parent, .string p.it.number, .string p.it.north, .string p.it.south, .bool p.it.gone] 26) = w1 at *
  by_cases k2 : p.it.kind = 2
  · have kb2 : (p.it.kind == 2) = true := beq_iff_eq.2 k2
    clear k2
    have HKO := hide (show kindOk p.it = true by unfold kindOk; rw [kb2, Bool.true_or])
    cases hN : decide (p.it.number = Dg.nil8) with
    | false =>
      rw [hN] at hne
      have E9 := hide (show false = R by rw [← HR.out]; exact (checkP_num hN).symm)
      clear hN
      obtain ⟨q0, q1, q2, q3, q4, q5, q6⟩ := iCells hS1.r2
      go_upto_region 3 with (fail)
      clear q0 q1 q2 q3 q4 q5 q6
      try clear hc1
      try clear hc2
      refine wp_region_noPanic ?_
      refine wp_region_L (PS w.heap.size (w.heap.size + 1) p A m c) 24 hmx ?_
      have hdr := (Below.refl w1.heap.size w1).drew
      have hS2 : (PS w.heap.size (w.heap.size + 1) p A m c) w1.drew := hS1.below hdr
      have hb2 := bnext hb1 hdr
      clear hdr hS1 hb1
      generalize w1.drew = w2 at *
      refine wpAnyL_take (i := 0) (f0 := 26) (v := ?_) rfl (by decide +kernel) (by decide +kernel) (by decide +kernel) (by decide +kernel) (by decide +kernel) (fun _ _ _ h => h) (Or.inl ⟨by rfl, ?_⟩) hS2 ?_
      rotate_left
      · intro wS hS; go_simp; (try with_reducible rfl)
      simp only [Act.put, List.getElem_toArray, List.getElem_cons_zero, List.setIfInBounds_toArray, List.set_cons_succ, List.set_cons_zero]
      refine wpAnyL_take (i := 1) (f0 := 26) (v := ?_) rfl (by decide +kernel) (by decide +kernel) (by decide +kernel) (by decide +kernel) (by decide +kernel) (fun _ _ _ h => h) (Or.inl ⟨by rfl, ?_⟩) hS2 ?_
      rotate_left
      · intro wS hS; go_simp; (try with_reducible rfl)
      simp only [Act.put, List.getElem_toArray, List.getElem_cons_succ, List.getElem_cons_zero, List.setIfInBounds_toArray, List.set_cons_succ, List.set_cons_zero]
      refine wpAnyL_take (i := 2) (f0 := 26) (v := ?_) rfl (by decide +kernel) (by decide +kernel) (by decide +kernel) (by decide +kernel) (by decide +kernel) (fun _ _ _ h => h) (Or.inl ⟨by rfl, ?_⟩) hS2 ?_
      rotate_left
      · intro wS hS; go_simp; (try with_reducible rfl)
      simp only [Act.put, List.getElem_toArray, List.getElem_cons_succ, List.getElem_cons_zero, List.setIfInBounds_toArray, List.set_cons_succ, List.set_cons_zero]
      refine wpAnyL_take (i := 3) (f0 := 26) (v := ?_) rfl (by decide +kernel) (by decide +kernel) (by decide +kernel) (by decide +kernel) (by decide +kernel) (fun _ _ _ h => h) (Or.inl ⟨by rfl, ?_⟩) hS2 ?_
      rotate_left
      · intro wS hS; obtain ⟨q0, q1, q2, q3, q4, q5, q6⟩ := iCells hS.r2; go_simp; (try with_reducible rfl)
      simp only [Act.put, List.getElem_toArray, List.getElem_cons_succ, List.getElem_cons_zero, List.setIfInBounds_toArray, List.set_cons_succ, List.set_cons_zero]
      refine wpAnyL_take (i := 4) (f0 := 26) (v := ?_) rfl (by decide +kernel) (by decide +kernel) (by decide +kernel) (by decide +kernel) (by decide +kernel) (fun _ _ _ h => h) (Or.inl ⟨by rfl, ?_⟩) hS2 ?_
      rotate_left
      · intro wS hS; go_simp; (try with_reducible rfl)
      simp only [Act.put, List.getElem_toArray, List.getElem_cons_succ, List.getElem_cons_zero, List.setIfInBounds_toArray, List.set_cons_succ, List.set_cons_zero]
      refine wpAnyL_take (i := 5) (f0 := 26) (v := ?_) rfl (by decide +kernel) (by decide +kernel) (by decide +kernel) (by decide +kernel) (by decide +kernel) (fun _ _ _ h => h) (Or.inl ⟨by rfl, ?_⟩) hS2 ?_
      rotate_left
      · intro wS hS; go_simp; (try with_reducible rfl)
      simp only [Act.put, List.getElem_toArray, List.getElem_cons_succ, List.getElem_cons_zero, List.setIfInBounds_toArray, List.set_cons_succ, List.set_cons_zero]
      refine wpAnyL_take (i := 6) (f0 := 26) (v := ?_) rfl (by decide +kernel) (by decide +kernel) (by decide +kernel) (by decide +kernel) (by decide +kernel) (fun _ _ _ h => h) (Or.inl ⟨by rfl, ?_⟩) hS2 ?_
      rotate_left
      · intro wS hS; go_simp; (try with_reducible rfl)
      simp only [Act.put, List.getElem_toArray, List.getElem_cons_succ, List.getElem_cons_zero, List.setIfInBounds_toArray, List.set_cons_succ, List.set_cons_zero]
      refine wpAnyL_take (i := 7) (f0 := 26) (v := undef) rfl (by decide +kernel) (by decide +kernel) (by decide +kernel) (by decide +kernel) (by decide +kernel) (fun _ _ _ h => h) (Or.inr ⟨by rfl, rfl⟩) hS2 ?_
      simp only [Act.put, List.getElem_toArray, List.getElem_cons_succ, List.getElem_cons_zero, List.setIfInBounds_toArray, List.set_cons_succ, List.set_cons_zero]
      refine wpAnyL_take (i := 8) (f0 := 26) (v := undef) rfl (by decide +kernel) (by decide +kernel) (by decide +kernel) (by decide +kernel) (by decide +kernel) (fun _ _ _ h => h) (Or.inr ⟨by rfl, rfl⟩) hS2 ?_
      simp only [Act.put, List.getElem_toArray, List.getElem_cons_succ, List.getElem_cons_zero, List.setIfInBounds_toArray, List.set_cons_succ, List.set_cons_zero]
      refine wpAnyL_take (i := 9) (f0 := 26) (v := undef) rfl (by decide +kernel) (by decide +kernel) (by decide +kernel) (by decide +kernel) (by decide +kernel) (fun _ _ _ h => h) (Or.inr ⟨by rfl, rfl⟩) hS2 ?_
      simp only [Act.put, List.getElem_toArray, List.getElem_cons_succ, List.getElem_cons_zero, List.setIfInBounds_toArray, List.set_cons_succ, List.set_cons_zero]
      refine wpAnyL_take (i := 10) (f0 := 26) (v := ?_) rfl (by decide +kernel) (by decide +kernel) (by decide +kernel) (by decide +kernel) (by decide +kernel) (fun _ _ _ h => h) (Or.inl ⟨by rfl, ?_⟩) hS2 ?_
      rotate_left
      · intro wS hS; go_simp; (try with_reducible rfl)
      simp only [Act.put, List.getElem_toArray, List.getElem_cons_succ, List.getElem_cons_zero, List.setIfInBounds_toArray, List.set_cons_succ, List.set_cons_zero]
      refine wpAnyL_take (i := 11) (f0 := 26) (v := ?_) rfl (by decide +kernel) (by decide +kernel) (by decide +kernel) (by decide +kernel) (by decide +kernel) (fun _ _ _ h => h) (Or.inl ⟨by rfl, ?_⟩) hS2 ?_
      rotate_left
      · intro wS hS; go_simp; (try with_reducible rfl)
      simp only [Act.put, List.getElem_toArray, List.getElem_cons_succ, List.getElem_cons_zero, List.setIfInBounds_toArray, List.set_cons_succ, List.set_cons_zero]
      refine wpAnyL_take (i := 12) (f0 := 26) (v := undef) rfl (by decide +kernel) (by decide +kernel) (by decide +kernel) (by decide +kernel) (by decide +kernel) (fun _ _ _ h => h) (Or.inr ⟨by rfl, rfl⟩) hS2 ?_
      simp only [Act.put, List.getElem_toArray, List.getElem_cons_succ, List.getElem_cons_zero, List.setIfInBounds_toArray, List.set_cons_succ, List.set_cons_zero]
      refine wpAnyL_take (i := 13) (f0 := 26) (v := undef) rfl (by decide +kernel) (by decide +kernel) (by decide +kernel) (by decide +kernel) (by decide +kernel) (fun _ _ _ h => h) (Or.inr ⟨by rfl, rfl⟩) hS2 ?_
      simp only [Act.put, List.getElem_toArray, List.getElem_cons_succ, List.getElem_cons_zero, List.setIfInBounds_toArray, List.set_cons_succ, List.set_cons_zero]
      refine wpAnyL_take (i := 14) (f0 := 26) (v := undef) rfl (by decide +kernel) (by decide +kernel) (by decide +kernel) (by decide +kernel) (by decide +kernel) (fun _ _ _ h => h) (Or.inr ⟨by rfl, rfl⟩) hS2 ?_
      simp only [Act.put, List.getElem_toArray, List.getElem_cons_succ, List.getElem_cons_zero, List.setIfInBounds_toArray, List.set_cons_succ, List.set_cons_zero]
      refine wpAnyL_take (i := 15) (f0 := 26) (v := undef) rfl (by decide +kernel) (by decide +kernel) (by decide +kernel) (by decide +kernel) (by decide +kernel) (fun _ _ _ h => h) (Or.inr ⟨by rfl, rfl⟩) hS2 ?_
      simp only [Act.put, List.getElem_toArray, List.getElem_cons_succ, List.getElem_cons_zero, List.setIfInBounds_toArray, List.set_cons_succ, List.set_cons_zero]
      refine wpAnyL_take (i := 16) (f0 := 26) (v := undef) rfl (by decide +kernel) (by decide +kernel) (by decide +kernel) (by decide +kernel) (by decide +kernel) (fun _ _ _ h => h) (Or.inr ⟨by rfl, rfl⟩) hS2 ?_
      simp only [Act.put, List.getElem_toArray, List.getElem_cons_succ, List.getElem_cons_zero, List.setIfInBounds_toArray, List.set_cons_succ, List.set_cons_zero]
      refine wpAnyL_take (i := 17) (f0 := 26) (v := undef) rfl (by decide +kernel) (by decide +kernel) (by decide +kernel) (by decide +kernel) (by decide +kernel) (fun _ _ _ h => h) (Or.inr ⟨by rfl, rfl⟩) hS2 ?_
      simp only [Act.put, List.getElem_toArray, List.getElem_cons_succ, List.getElem_cons_zero, List.setIfInBounds_toArray, List.set_cons_succ, List.set_cons_zero]
      refine wpAnyL_take (i := 18) (f0 := 26) (v := undef) rfl (by decide +kernel) (by decide +kernel) (by decide +kernel) (by decide +kernel) (by decide +kernel) (fun _ _ _ h => h) (Or.inr ⟨by rfl, rfl⟩) hS2 ?_
      simp only [Act.put, List.getElem_toArray, List.getElem_cons_succ, List.getElem_cons_zero, List.setIfInBounds_toArray, List.set_cons_succ, List.set_cons_zero]
      refine wpAnyL_take (i := 19) (f0 := 26) (v := undef) rfl (by decide +kernel) (by decide +kernel) (by decide +kernel) (by decide +kernel) (by decide +kernel) (fun _ _ _ h => h) (Or.inr ⟨by rfl, rfl⟩) hS2 ?_
      simp only [Act.put, List.getElem_toArray, List.getElem_cons_succ, List.getElem_cons_zero, List.setIfInBounds_toArray, List.set_cons_succ, List.set_cons_zero]
      refine wpAnyL_take (i := 20) (f0 := 26) (v := undef) rfl (by decide +kernel) (by decide +kernel) (by decide +kernel) (by decide +kernel) (by decide +kernel) (fun _ _ _ h => h) (Or.inr ⟨by rfl, rfl⟩) hS2 ?_
      simp only [Act.put, List.getElem_toArray, List.getElem_cons_succ, List.getElem_cons_zero, List.setIfInBounds_toArray, List.set_cons_succ, List.set_cons_zero]
      refine wpAnyL_take (i := 21) (f0 := 26) (v := undef) rfl (by decide +kernel) (by decide +kernel) (by decide +kernel) (by decide +kernel) (by decide +kernel) (fun _ _ _ h => h) (Or.inr ⟨by rfl, rfl⟩) hS2 ?_
      simp only [Act.put, List.getElem_toArray, List.getElem_cons_succ, List.getElem_cons_zero, List.setIfInBounds_toArray, List.set_cons_succ, List.set_cons_zero]
      refine wpAnyL_take (i := 22) (f0 := 26) (v := ?_) rfl (by decide +kernel) (by decide +kernel) (by decide +kernel) (by decide +kernel) (by decide +kernel) (fun _ _ _ h => h) (Or.inl ⟨by rfl, ?_⟩) hS2 ?_
      rotate_left
      · intro wS hS; go_simp; (try with_reducible rfl)
      simp only [Act.put, List.getElem_toArray, List.getElem_cons_succ, List.getElem_cons_zero, List.setIfInBounds_toArray, List.set_cons_succ, List.set_cons_zero]
      refine wpAnyL_take (i := 23) (f0 := 26) (v := ?_) rfl (by decide +kernel) (by decide +kernel) (by decide +kernel) (by decide +kernel) (by decide +kernel) (fun _ _ _ h => h) (Or.inl ⟨by rfl, ?_⟩) hS2 ?_
      rotate_left
      · intro wS hS; go_simp; (try with_reducible rfl)
      simp only [Act.put, List.getElem_toArray, List.getElem_cons_succ, List.getElem_cons_zero, List.setIfInBounds_toArray, List.set_cons_succ, List.set_cons_zero]
      refine wpAnyL_done (by decide +kernel) ?_ _
      refine NoPanic.normal ?_
      go_wp2
      go_ret
      exact ⟨ret_bool E9.out, hb2⟩
    | true =>
      rw [hN] at hne
      have HNO := hide hN
      clear hN
      cases hg : p.it.gone with
      | true =>
        have E9 := hide (show false = R by rw [← HR.out]; exact (checkP_gone hg).symm)
        obtain ⟨q0, q1, q2, q3, q4, q5, q6⟩ := iCells hS1.r2
        go_upto_region 3 with (fail)
        clear q0 q1 q2 q3 q4 q5 q6
        try clear hc1
        try clear hc2
        refine wp_region_noPanic ?_
        refine wp_region_L (PS w.heap.size (w.heap.size + 1) p A m c) 24 hmx ?_
        have hdr := (Below.refl w1.heap.size w1).drew
        have hS2 : (PS w.heap.size (w.heap.size + 1) p A m c) w1.drew := hS1.below hdr
        have hb2 := bnext hb1 hdr
        clear hdr hS1 hb1
        generalize w1.drew = w2 at *
        refine wpAnyL_take (i := 0) (f0 := 26) (v := ?_) rfl (by decide +kernel) (by decide +kernel) (by decide +kernel) (by decide +kernel) (by decide +kernel) (fun _ _ _ h => h) (Or.inl ⟨by rfl, ?_⟩) hS2 ?_
        rotate_left
        · intro wS hS; go_simp; (try with_reducible rfl)
        simp only [Act.put, List.getElem_toArray, List.getElem_cons_zero, List.setIfInBounds_toArray, List.set_cons_succ, List.set_cons_zero]
        refine wpAnyL_take (i := 1) (f0 := 26) (v := ?_) rfl (by decide +kernel) (by decide +kernel) (by decide +kernel) (by decide +kernel) (by decide +kernel) (fun _ _ _ h => h) (Or.inl ⟨by rfl, ?_⟩) hS2 ?_
        rotate_left
        · intro wS hS; go_simp; (try with_reducible rfl)
        simp only [Act.put, List.getElem_toArray, List.getElem_cons_succ, List.getElem_cons_zero, List.setIfInBounds_toArray, List.set_cons_succ, List.set_cons_zero]
        refine wpAnyL_take (i := 2) (f0 := 26) (v := ?_) rfl (by decide +kernel) (by decide +kernel) (by decide +kernel) (by decide +kernel) (by decide +kernel) (fun _ _ _ h => h) (Or.inl ⟨by rfl, ?_⟩) hS2 ?_
        rotate_left
        · intro wS hS; go_simp; (try with_reducible rfl)
        simp only [Act.put, List.getElem_toArray, List.getElem_cons_succ, List.getElem_cons_zero, List.setIfInBounds_toArray, List.set_cons_succ, List.set_cons_zero]
        refine wpAnyL_take (i := 3) (f0 := 26) (v := ?_) rfl (by decide +kernel) (by decide +kernel) (by decide +kernel) (by decide +kernel) (by decide +kernel) (fun _ _ _ h => h) (Or.inl ⟨by rfl, ?_⟩) hS2 ?_
        rotate_left
        · intro wS hS; obtain ⟨q0, q1, q2, q3, q4, q5, q6⟩ := iCells hS.r2; go_simp; (try with_reducible rfl)
        simp only [Act.put, List.getElem_toArray, List.getElem_cons_succ, List.getElem_cons_zero, List.setIfInBounds_toArray, List.set_cons_succ, List.set_cons_zero]
        refine wpAnyL_take (i := 4) (f0 := 26) (v := ?_) rfl (by decide +kernel) (by decide +kernel) (by decide +kernel) (by decide +kernel) (by decide +kernel) (fun _ _ _ h => h) (Or.inl ⟨by rfl, ?_⟩) hS2 ?_
        rotate_left
        · intro wS hS; go_simp; (try with_reducible rfl)
        simp only [Act.put, List.getElem_toArray, List.getElem_cons_succ, List.getElem_cons_zero, List.setIfInBounds_toArray, List.set_cons_succ, List.set_cons_zero]
        refine wpAnyL_take (i := 5) (f0 := 26) (v := ?_) rfl (by decide +kernel) (by decide +kernel) (by decide +kernel) (by decide +kernel) (by decide +kernel) (fun _ _ _ h => h) (Or.inl ⟨by rfl, ?_⟩) hS2 ?_
        rotate_left
        · intro wS hS; go_simp; (try with_reducible rfl)
        simp only [Act.put, List.getElem_toArray, List.getElem_cons_succ, List.getElem_cons_zero, List.setIfInBounds_toArray, List.set_cons_succ, List.set_cons_zero]
        refine wpAnyL_take (i := 6) (f0 := 26) (v := ?_) rfl (by decide +kernel) (by decide +kernel) (by decide +kernel) (by decide +kernel) (by decide +kernel) (fun _ _ _ h => h) (Or.inl ⟨by rfl, ?_⟩) hS2 ?_
        rotate_left
        · intro wS hS; go_simp; (try with_reducible rfl)
        simp only [Act.put, List.getElem_toArray, List.getElem_cons_succ, List.getElem_cons_zero, List.setIfInBounds_toArray, List.set_cons_succ, List.set_cons_zero]
        refine wpAnyL_take (i := 7) (f0 := 26) (v := ?_) rfl (by decide +kernel) (by decide +kernel) (by decide +kernel) (by decide +kernel) (by decide +kernel) (fun _ _ _ h => h) (Or.inl ⟨by rfl, ?_⟩) hS2 ?_
        rotate_left
        · intro wS hS; go_simp; (try with_reducible rfl)
        simp only [Act.put, List.getElem_toArray, List.getElem_cons_succ, List.getElem_cons_zero, List.setIfInBounds_toArray, List.set_cons_succ, List.set_cons_zero]
        refine wpAnyL_take (i := 8) (f0 := 26) (v := ?_) rfl (by decide +kernel) (by decide +kernel) (by decide +kernel) (by decide +kernel) (by decide +kernel) (fun _ _ _ h => h) (Or.inl ⟨by rfl, ?_⟩) hS2 ?_
        rotate_left
        · intro wS hS; obtain ⟨q0, q1, q2, q3, q4, q5, q6⟩ := iCells hS.r2; go_simp; (try with_reducible rfl)
        simp only [Act.put, List.getElem_toArray, List.getElem_cons_succ, List.getElem_cons_zero, List.setIfInBounds_toArray, List.set_cons_succ, List.set_cons_zero]
        refine wpAnyL_take (i := 9) (f0 := 26) (v := ?_) rfl (by decide +kernel) (by decide +kernel) (by decide +kernel) (by decide +kernel) (by decide +kernel) (fun _ _ _ h => h) (Or.inl ⟨by rfl, ?_⟩) hS2 ?_
        rotate_left
        · intro wS hS; go_simp; (try with_reducible rfl)
        simp only [Act.put, List.getElem_toArray, List.getElem_cons_succ, List.getElem_cons_zero, List.setIfInBounds_toArray, List.set_cons_succ, List.set_cons_zero]
        refine wpAnyL_take (i := 10) (f0 := 26) (v := ?_) rfl (by decide +kernel) (by decide +kernel) (by decide +kernel) (by decide +kernel) (by decide +kernel) (fun _ _ _ h => h) (Or.inl ⟨by rfl, ?_⟩) hS2 ?_
        rotate_left
        · intro wS hS; go_simp; (try with_reducible rfl)
        simp only [Act.put, List.getElem_toArray, List.getElem_cons_succ, List.getElem_cons_zero, List.setIfInBounds_toArray, List.set_cons_succ, List.set_cons_zero]
        refine wpAnyL_take (i := 11) (f0 := 26) (v := ?_) rfl (by decide +kernel) (by decide +kernel) (by decide +kernel) (by decide +kernel) (by decide +kernel) (fun _ _ _ h => h) (Or.inl ⟨by rfl, ?_⟩) hS2 ?_
        rotate_left
        · intro wS hS; go_simp; (try with_reducible rfl)
        simp only [Act.put, List.getElem_toArray, List.getElem_cons_succ, List.getElem_cons_zero, List.setIfInBounds_toArray, List.set_cons_succ, List.set_cons_zero]
        refine wpAnyL_take (i := 12) (f0 := 26) (v := undef) rfl (by decide +kernel) (by decide +kernel) (by decide +kernel) (by decide +kernel) (by decide +kernel) (fun _ _ _ h => h) (Or.inr ⟨by rfl, rfl⟩) hS2 ?_
        simp only [Act.put, List.getElem_toArray, List.getElem_cons_succ, List.getElem_cons_zero, List.setIfInBounds_toArray, List.set_cons_succ, List.set_cons_zero]
        refine wpAnyL_take (i := 13) (f0 := 26) (v := undef) rfl (by decide +kernel) (by decide +kernel) (by decide +kernel) (by decide +kernel) (by decide +kernel) (fun _ _ _ h => h) (Or.inr ⟨by rfl, rfl⟩) hS2 ?_
        simp only [Act.put, List.getElem_toArray, List.getElem_cons_succ, List.getElem_cons_zero, List.setIfInBounds_toArray, List.set_cons_succ, List.set_cons_zero]
        refine wpAnyL_take (i := 14) (f0 := 26) (v := undef) rfl (by decide +kernel) (by decide +kernel) (by decide +kernel) (by decide +kernel) (by decide +kernel) (fun _ _ _ h => h) (Or.inr ⟨by rfl, rfl⟩) hS2 ?_
        simp only [Act.put, List.getElem_toArray, List.getElem_cons_succ, List.getElem_cons_zero, List.setIfInBounds_toArray, List.set_cons_succ, List.set_cons_zero]
        refine wpAnyL_take (i := 15) (f0 := 26) (v := undef) rfl (by decide +kernel) (by decide +kernel) (by decide +kernel) (by decide +kernel) (by decide +kernel) (fun _ _ _ h => h) (Or.inr ⟨by rfl, rfl⟩) hS2 ?_
        simp only [Act.put, List.getElem_toArray, List.getElem_cons_succ, List.getElem_cons_zero, List.setIfInBounds_toArray, List.set_cons_succ, List.set_cons_zero]
        refine wpAnyL_take (i := 16) (f0 := 26) (v := undef) rfl (by decide +kernel) (by decide +kernel) (by decide +kernel) (by decide +kernel) (by decide +kernel) (fun _ _ _ h => h) (Or.inr ⟨by rfl, rfl⟩) hS2 ?_
        simp only [Act.put, List.getElem_toArray, List.getElem_cons_succ, List.getElem_cons_zero, List.setIfInBounds_toArray, List.set_cons_succ, List.set_cons_zero]
        refine wpAnyL_take (i := 17) (f0 := 26) (v := undef) rfl (by decide +kernel) (by decide +kernel) (by decide +kernel) (by decide +kernel) (by decide +kernel) (fun _ _ _ h => h) (Or.inr ⟨by rfl, rfl⟩) hS2 ?_
        simp only [Act.put, List.getElem_toArray, List.getElem_cons_succ, List.getElem_cons_zero, List.setIfInBounds_toArray, List.set_cons_succ, List.set_cons_zero]
        refine wpAnyL_take (i := 18) (f0 := 26) (v := undef) rfl (by decide +kernel) (by decide +kernel) (by decide +kernel) (by decide +kernel) (by decide +kernel) (fun _ _ _ h => h) (Or.inr ⟨by rfl, rfl⟩) hS2 ?_
        simp only [Act.put, List.getElem_toArray, List.getElem_cons_succ, List.getElem_cons_zero, List.setIfInBounds_toArray, List.set_cons_succ, List.set_cons_zero]
        refine wpAnyL_take (i := 19) (f0 := 26) (v := undef) rfl (by decide +kernel) (by decide +kernel) (by decide +kernel) (by decide +kernel) (by decide +kernel) (fun _ _ _ h => h) (Or.inr ⟨by rfl, rfl⟩) hS2 ?_
        simp only [Act.put, List.getElem_toArray, List.getElem_cons_succ, List.getElem_cons_zero, List.setIfInBounds_toArray, List.set_cons_succ, List.set_cons_zero]
        refine wpAnyL_take (i := 20) (f0 := 26) (v := undef) rfl (by decide +kernel) (by decide +kernel) (by decide +kernel) (by decide +kernel) (by decide +kernel) (fun _ _ _ h => h) (Or.inr ⟨by rfl, rfl⟩) hS2 ?_
        simp only [Act.put, List.getElem_toArray, List.getElem_cons_succ, List.getElem_cons_zero, List.setIfInBounds_toArray, List.set_cons_succ, List.set_cons_zero]
        refine wpAnyL_take (i := 21) (f0 := 26) (v := undef) rfl (by decide +kernel) (by decide +kernel) (by decide +kernel) (by decide +kernel) (by decide +kernel) (fun _ _ _ h => h) (Or.inr ⟨by rfl, rfl⟩) hS2 ?_
        simp only [Act.put, List.getElem_toArray, List.getElem_cons_succ, List.getElem_cons_zero, List.setIfInBounds_toArray, List.set_cons_succ, List.set_cons_zero]
        refine wpAnyL_take (i := 22) (f0 := 26) (v := ?_) rfl (by decide +kernel) (by decide +kernel) (by decide +kernel) (by decide +kernel) (by decide +kernel) (fun _ _ _ h => h) (Or.inl ⟨by rfl, ?_⟩) hS2 ?_
        rotate_left
        · intro wS hS; go_simp; (try with_reducible rfl)
        simp only [Act.put, List.getElem_toArray, List.getElem_cons_succ, List.getElem_cons_zero, List.setIfInBounds_toArray, List.set_cons_succ, List.set_cons_zero]
        refine wpAnyL_take (i := 23) (f0 := 26) (v := ?_) rfl (by decide +kernel) (by decide +kernel) (by decide +kernel) (by decide +kernel) (by decide +kernel) (fun _ _ _ h => h) (Or.inl ⟨by rfl, ?_⟩) hS2 ?_
        rotate_left
        · intro wS hS; go_simp; (try with_reducible rfl)
        simp only [Act.put, List.getElem_toArray, List.getElem_cons_succ, List.getElem_cons_zero, List.setIfInBounds_toArray, List.set_cons_succ, List.set_cons_zero]
        refine wpAnyL_done (by decide +kernel) ?_ _
        refine NoPanic.normal ?_
        go_wp2
        go_ret
        exact ⟨ret_bool E9.out, hb2⟩
      | false =>
        obtain ⟨q0, q1, q2, q3, q4, q5, q6⟩ := iCells hS1.r2
        go_upto_region 3 with (fail)
        clear q0 q1 q2 q3 q4 q5 q6
        try clear hc1
        try clear hc2
        refine wp_region_noPanic ?_
        refine wp_region_L (PS w.heap.size (w.heap.size + 1) p A m c) 24 hmx ?_
        have hdr := (Below.refl w1.heap.size w1).drew
        have hS2 : (PS w.heap.size (w.heap.size + 1) p A m c) w1.drew := hS1.below hdr
        have hb2 := bnext hb1 hdr
        clear hdr hS1 hb1
        generalize w1.drew = w2 at *
        obtain ⟨LF, hLF⟩ : ∃ K, Dg.leafI p.it = K := ⟨_, rfl⟩
        have HKZ := hide (show LF.size ≤ 1048576 by rw [← hLF]; exact leafI_size2 HZ.out)
        have HC := hide (show checkB root p.count p.idx LF p.path = R by rw [← HR.out, checkP_rest HKO.out HNO.out hg, hLF])
        have HLF := hide hLF
        clear hLF
        refine wpAnyL_take (i := 0) (f0 := 26) (v := ?_) rfl (by decide +kernel) (by decide +kernel) (by decide +kernel) (by decide +kernel) (by decide +kernel) (fun _ _ _ h => h) (Or.inl ⟨by rfl, ?_⟩) hS2 ?_
        rotate_left
        · intro wS hS; go_simp; (try with_reducible rfl)
        simp only [Act.put, List.getElem_toArray, List.getElem_cons_zero, List.setIfInBounds_toArray, List.set_cons_succ, List.set_cons_zero]
        refine wpAnyL_take (i := 1) (f0 := 26) (v := ?_) rfl (by decide +kernel) (by decide +kernel) (by decide +kernel) (by decide +kernel) (by decide +kernel) (fun _ _ _ h => h) (Or.inl ⟨by rfl, ?_⟩) hS2 ?_
        rotate_left
        · intro wS hS; go_simp; (try with_reducible rfl)
        simp only [Act.put, List.getElem_toArray, List.getElem_cons_succ, List.getElem_cons_zero, List.setIfInBounds_toArray, List.set_cons_succ, List.set_cons_zero]
        refine wpAnyL_take (i := 2) (f0 := 26) (v := ?_) rfl (by decide +kernel) (by decide +kernel) (by decide +kernel) (by decide +kernel) (by decide +kernel) (fun _ _ _ h => h) (Or.inl ⟨by rfl, ?_⟩) hS2 ?_
        rotate_left
        · intro wS hS; go_simp; (try with_reducible rfl)
        simp only [Act.put, List.getElem_toArray, List.getElem_cons_succ, List.getElem_cons_zero, List.setIfInBounds_toArray, List.set_cons_succ, List.set_cons_zero]
        refine wpAnyL_take (i := 3) (f0 := 26) (v := ?_) rfl (by decide +kernel) (by decide +kernel) (by decide +kernel) (by decide +kernel) (by decide +kernel) (fun _ _ _ h => h) (Or.inl ⟨by rfl, ?_⟩) hS2 ?_
        rotate_left
        · intro wS hS; obtain ⟨q0, q1, q2, q3, q4, q5, q6⟩ := iCells hS.r2; go_simp; (try with_reducible rfl)
        simp only [Act.put, List.getElem_toArray, List.getElem_cons_succ, List.getElem_cons_zero, List.setIfInBounds_toArray, List.set_cons_succ, List.set_cons_zero]
        refine wpAnyL_take (i := 4) (f0 := 26) (v := ?_) rfl (by decide +kernel) (by decide +kernel) (by decide +kernel) (by decide +kernel) (by decide +kernel) (fun _ _ _ h => h) (Or.inl ⟨by rfl, ?_⟩) hS2 ?_
        rotate_left
        · intro wS hS; go_simp; (try with_reducible rfl)
        simp only [Act.put, List.getElem_toArray, List.getElem_cons_succ, List.getElem_cons_zero, List.setIfInBounds_toArray, List.set_cons_succ, List.set_cons_zero]
        refine wpAnyL_take (i := 5) (f0 := 26) (v := ?_) rfl (by decide +kernel) (by decide +kernel) (by decide +kernel) (by decide +kernel) (by decide +kernel) (fun _ _ _ h => h) (Or.inl ⟨by rfl, ?_⟩) hS2 ?_
        rotate_left
        · intro wS hS; go_simp; (try with_reducible rfl)
        simp only [Act.put, List.getElem_toArray, List.getElem_cons_succ, List.getElem_cons_zero, List.setIfInBounds_toArray, List.set_cons_succ, List.set_cons_zero]
        refine wpAnyL_take (i := 6) (f0 := 26) (v := ?_) rfl (by decide +kernel) (by decide +kernel) (by decide +kernel) (by decide +kernel) (by decide +kernel) (fun _ _ _ h => h) (Or.inl ⟨by rfl, ?_⟩) hS2 ?_
        rotate_left
        · intro wS hS; go_simp; (try with_reducible rfl)
        simp only [Act.put, List.getElem_toArray, List.getElem_cons_succ, List.getElem_cons_zero, List.setIfInBounds_toArray, List.set_cons_succ, List.set_cons_zero]
        refine wpAnyL_take (i := 7) (f0 := 26) (v := ?_) rfl (by decide +kernel) (by decide +kernel) (by decide +kernel) (by decide +kernel) (by decide +kernel) (fun _ _ _ h => h) (Or.inl ⟨by rfl, ?_⟩) hS2 ?_
        rotate_left
        · intro wS hS; go_simp; (try with_reducible rfl)
        simp only [Act.put, List.getElem_toArray, List.getElem_cons_succ, List.getElem_cons_zero, List.setIfInBounds_toArray, List.set_cons_succ, List.set_cons_zero]
        refine wpAnyL_take (i := 8) (f0 := 26) (v := ?_) rfl (by decide +kernel) (by decide +kernel) (by decide +kernel) (by decide +kernel) (by decide +kernel) (fun _ _ _ h => h) (Or.inl ⟨by rfl, ?_⟩) hS2 ?_
        rotate_left
        · intro wS hS; obtain ⟨q0, q1, q2, q3, q4, q5, q6⟩ := iCells hS.r2; go_simp; (try with_reducible rfl)
        simp only [Act.put, List.getElem_toArray, List.getElem_cons_succ, List.getElem_cons_zero, List.setIfInBounds_toArray, List.set_cons_succ, List.set_cons_zero]
        refine wpAnyL_take (i := 9) (f0 := 26) (v := ?_) rfl (by decide +kernel) (by decide +kernel) (by decide +kernel) (by decide +kernel) (by decide +kernel) (fun _ _ _ h => h) (Or.inl ⟨by rfl, ?_⟩) hS2 ?_
        rotate_left
        · intro wS hS; go_simp; (try with_reducible rfl)
        simp only [Act.put, List.getElem_toArray, List.getElem_cons_succ, List.getElem_cons_zero, List.setIfInBounds_toArray, List.set_cons_succ, List.set_cons_zero]
        refine wpAnyL_take (i := 10) (f0 := 26) (v := ?_) rfl (by decide +kernel) (by decide +kernel) (by decide +kernel) (by decide +kernel) (by decide +kernel) (fun _ _ _ h => h) (Or.inl ⟨by rfl, ?_⟩) hS2 ?_
        rotate_left
        · intro wS hS; go_simp; (try with_reducible rfl)
        simp only [Act.put, List.getElem_toArray, List.getElem_cons_succ, List.getElem_cons_zero, List.setIfInBounds_toArray, List.set_cons_succ, List.set_cons_zero]
        refine wpAnyL_take (i := 11) (f0 := 26) (v := ?_) rfl (by decide +kernel) (by decide +kernel) (by decide +kernel) (by decide +kernel) (by decide +kernel) (fun _ _ _ h => h) (Or.inl ⟨by rfl, ?_⟩) hS2 ?_
        rotate_left
        · intro wS hS; go_simp; (try with_reducible rfl)
        simp only [Act.put, List.getElem_toArray, List.getElem_cons_succ, List.getElem_cons_zero, List.setIfInBounds_toArray, List.set_cons_succ, List.set_cons_zero]
        refine wpAnyL_take (i := 12) (f0 := 26) (v := ?_) rfl (by decide +kernel) (by decide +kernel) (by decide +kernel) (by decide +kernel) (by decide +kernel) (fun _ _ _ h => h) (Or.inl ⟨by rfl, ?_⟩) hS2 ?_
        rotate_left
        · intro wS hS; go_simp; (try with_reducible rfl)
        simp only [Act.put, List.getElem_toArray, List.getElem_cons_succ, List.getElem_cons_zero, List.setIfInBounds_toArray, List.set_cons_succ, List.set_cons_zero]
        refine wpAnyL_take (i := 13) (f0 := 26) (v := ?_) rfl (by decide +kernel) (by decide +kernel) (by decide +kernel) (by decide +kernel) (by decide +kernel) (fun _ _ _ h => h) (Or.inl ⟨by rfl, ?_⟩) hS2 ?_
        rotate_left
        · intro wS hS; go_simp; (try with_reducible rfl)
        simp only [Act.put, List.getElem_toArray, List.getElem_cons_succ, List.getElem_cons_zero, List.setIfInBounds_toArray, List.set_cons_succ, List.set_cons_zero]
        refine wpAnyL_take (i := 14) (f0 := 26) (v := ?_) rfl (by decide +kernel) (by decide +kernel) (by decide +kernel) (by decide +kernel) (by decide +kernel) (fun _ _ _ h => h) (Or.inl ⟨by rfl, ?_⟩) hS2 ?_
        rotate_left
        · intro wS hS; obtain ⟨q0, q1, q2, q3, q4, q5, q6, q7, q8, q9⟩ := jCells10 hS.r1; go_simp; (try with_reducible rfl)
        simp only [Act.put, List.getElem_toArray, List.getElem_cons_succ, List.getElem_cons_zero, List.setIfInBounds_toArray, List.set_cons_succ, List.set_cons_zero]
        refine wpAnyL_take (i := 15) (f0 := 26) (v := ?_) rfl (by decide +kernel) (by decide +kernel) (by decide +kernel) (by decide +kernel) (by decide +kernel) (fun _ _ _ h => h) (Or.inl ⟨by rfl, ?_⟩) hS2 ?_
        rotate_left
        · intro wS hS; go_simp; (try with_reducible rfl)
        simp only [Act.put, List.getElem_toArray, List.getElem_cons_succ, List.getElem_cons_zero, List.setIfInBounds_toArray, List.set_cons_succ, List.set_cons_zero]
        refine wpAnyL_take (i := 16) (f0 := 26) (v := ?_) rfl (by decide +kernel) (by decide +kernel) (by decide +kernel) (by decide +kernel) (by decide +kernel) (fun _ _ _ h => h) (Or.inl ⟨by rfl, ?_⟩) hS2 ?_
        rotate_left
        · intro wS hS; obtain ⟨q0, q1, q2, q3, q4, q5, q6, q7, q8, q9⟩ := jCells10 hS.r1; go_simp; (try with_reducible rfl)
        simp only [Act.put, List.getElem_toArray, List.getElem_cons_succ, List.getElem_cons_zero, List.setIfInBounds_toArray, List.set_cons_succ, List.set_cons_zero]
        refine wpAnyL_take (i := 17) (f0 := 26) (v := ?_) rfl (by decide +kernel) (by decide +kernel) (by decide +kernel) (by decide +kernel) (by decide +kernel) (fun _ _ _ h => h) (Or.inl ⟨by rfl, ?_⟩) hS2 ?_
        rotate_left
        · intro wS hS; obtain ⟨q0, q1, q2, q3, q4, q5, q6⟩ := iCells hS.r2; go_simp; (try with_reducible rfl)
        simp only [Act.put, List.getElem_toArray, List.getElem_cons_succ, List.getElem_cons_zero, List.setIfInBounds_toArray, List.set_cons_succ, List.set_cons_zero]
        refine wpAnyL_take (i := 19) (f0 := 26) (v := ?_) rfl (by decide +kernel) (by decide +kernel) (by decide +kernel) (by decide +kernel) (by decide +kernel) (fun _ _ _ h => h) (Or.inl ⟨by rfl, ?_⟩) hS2 ?_
        rotate_left
        · intro wS hS; go_simp; (try with_reducible rfl)
        simp only [Act.put, List.getElem_toArray, List.getElem_cons_succ, List.getElem_cons_zero, List.setIfInBounds_toArray, List.set_cons_succ, List.set_cons_zero]
        refine wpAnyL_take (i := 20) (f0 := 26) (v := ?_) rfl (by decide +kernel) (by decide +kernel) (by decide +kernel) (by decide +kernel) (by decide +kernel) (fun _ _ _ h => h) (Or.inl ⟨by rfl, ?_⟩) hS2 ?_
        rotate_left
        · intro wS hS; obtain ⟨q0, q1, q2, q3, q4, q5, q6, q7, q8, q9⟩ := jCells10 hS.r1; go_simp; (try with_reducible rfl)
        simp only [Act.put, List.getElem_toArray, List.getElem_cons_succ, List.getElem_cons_zero, List.setIfInBounds_toArray, List.set_cons_succ, List.set_cons_zero]
        refine wpAnyL_one (i := 18) (by decide +kernel) (by rfl) (fun K hK => ?_)
        rw [if_pos (by rfl)]
        go_simp
        refine (pleaf_g p.it false (fun s hs => Nat.le_trans (HZ.out s hs) (by decide)) w2 (HE.out.next hb2) LF HLF.out).mono ?_
        rintro e w3 ⟨rfl, hx3⟩
        have hS3 : (PS w.heap.size (w.heap.size + 1) p A m c) w3 := hS2.below hx3
        have hb3 := bnext hb2 hx3
        refine hK.out _ _ (Or.inr hS3) ?_
        clear hK K hS2 hb2 hx3
        try simp only [Act.put, List.getElem_toArray, List.getElem_cons_succ, List.getElem_cons_zero, List.setIfInBounds_toArray, List.set_cons_succ, List.set_cons_zero]
        refine wpAnyL_one (i := 21) (by decide +kernel) (by rfl) (fun K hK => ?_)
        rw [if_pos (by rfl)]
        go_simp
        refine (check_of root p.count p.idx LF A c m p.path R HC.out w3 (HE.out.next hb3) HM.out hm2 (fun s hs => Nat.le_trans (HPS.out s hs) (by decide)) (by have := HKZ.out; omega) hS3.path).mono ?_
        rintro e w4 ⟨rfl, hx4⟩
        have hS4 : (PS w.heap.size (w.heap.size + 1) p A m c) w4 := hS3.below hx4
        have hb4 := bnext hb3 hx4
        refine hK.out _ _ (Or.inr hS4) ?_
        clear hK K hS3 hb3 hx4
        try simp only [Act.put, List.getElem_toArray, List.getElem_cons_succ, List.getElem_cons_zero, List.setIfInBounds_toArray, List.set_cons_succ, List.set_cons_zero]
        refine wpAnyL_take (i := 22) (f0 := 26) (v := ?_) rfl (by decide +kernel) (by decide +kernel) (by decide +kernel) (by decide +kernel) (by decide +kernel) (fun _ _ _ h => h) (Or.inl ⟨by rfl, ?_⟩) hS4 ?_
        rotate_left
        · intro wS hS; go_simp; (try with_reducible rfl)
        simp only [Act.put, List.getElem_toArray, List.getElem_cons_succ, List.getElem_cons_zero, List.setIfInBounds_toArray, List.set_cons_succ, List.set_cons_zero]
        refine wpAnyL_take (i := 23) (f0 := 26) (v := ?_) rfl (by decide +kernel) (by decide +kernel) (by decide +kernel) (by decide +kernel) (by decide +kernel) (fun _ _ _ h => h) (Or.inl ⟨by rfl, ?_⟩) hS4 ?_
        rotate_left
        · intro wS hS; go_simp; (try with_reducible rfl)
        simp only [Act.put, List.getElem_toArray, List.getElem_cons_succ, List.getElem_cons_zero, List.setIfInBounds_toArray, List.set_cons_succ, List.set_cons_zero]
        refine wpAnyL_done (by decide +kernel) ?_ _
        refine NoPanic.normal ?_
        go_wp2
        go_ret
        exact ⟨rfl, hb4⟩
  · have kb2 : (p.it.kind == 2) = false := beq_eq_false_iff_ne.2 k2
    clear k2
    by_cases k1 : p.it.kind = 1
    · have kb1 : (p.it.kind == 1) = true := beq_iff_eq.2 k1
      clear k1
      have HKO := hide (show kindOk p.it = true by unfold kindOk; rw [kb2, kb1, Bool.or_true])
      cases hN : decide (p.it.number = Dg.nil8) with
      | false =>
        rw [hN] at hne
        have E9 := hide (show false = R by rw [← HR.out]; exact (checkP_num hN).symm)
        clear hN
        obtain ⟨q0, q1, q2, q3, q4, q5, q6⟩ := iCells hS1.r2
        go_upto_region 3 with (fail)
        clear q0 q1 q2 q3 q4 q5 q6
        try clear hc1
        try clear hc2
        refine wp_region_noPanic ?_
        refine wp_region_L (PS w.heap.size (w.heap.size + 1) p A m c) 24 hmx ?_
        have hdr := (Below.refl w1.heap.size w1).drew
        have hS2 : (PS w.heap.size (w.heap.size + 1) p A m c) w1.drew := hS1.below hdr
        have hb2 := bnext hb1 hdr
        clear hdr hS1 hb1
        generalize w1.drew = w2 at *
        refine wpAnyL_take (i := 0) (f0 := 26) (v := ?_) rfl (by decide +kernel) (by decide +kernel) (by decide +kernel) (by decide +kernel) (by decide +kernel) (fun _ _ _ h => h) (Or.inl ⟨by rfl, ?_⟩) hS2 ?_
        rotate_left
        · intro wS hS; go_simp; (try with_reducible rfl)
        simp only [Act.put, List.getElem_toArray, List.getElem_cons_zero, List.setIfInBounds_toArray, List.set_cons_succ, List.set_cons_zero]
        refine wpAnyL_take (i := 1) (f0 := 26) (v := ?_) rfl (by decide +kernel) (by decide +kernel) (by decide +kernel) (by decide +kernel) (by decide +kernel) (fun _ _ _ h => h) (Or.inl ⟨by rfl, ?_⟩) hS2 ?_
        rotate_left
        · intro wS hS; go_simp; (try with_reducible rfl)
        simp only [Act.put, List.getElem_toArray, List.getElem_cons_succ, List.getElem_cons_zero, List.setIfInBounds_toArray, List.set_cons_succ, List.set_cons_zero]
        refine wpAnyL_take (i := 2) (f0 := 26) (v := ?_) rfl (by decide +kernel) (by decide +kernel) (by decide +kernel) (by decide +kernel) (by decide +kernel) (fun _ _ _ h => h) (Or.inl ⟨by rfl, ?_⟩) hS2 ?_
        rotate_left
        · intro wS hS; go_simp; (try with_reducible rfl)
        simp only [Act.put, List.getElem_toArray, List.getElem_cons_succ, List.getElem_cons_zero, List.setIfInBounds_toArray, List.set_cons_succ, List.set_cons_zero]
        refine wpAnyL_take (i := 3) (f0 := 26) (v := ?_) rfl (by decide +kernel) (by decide +kernel) (by decide +kernel) (by decide +kernel) (by decide +kernel) (fun _ _ _ h => h) (Or.inl ⟨by rfl, ?_⟩) hS2 ?_
        rotate_left
        · intro wS hS; obtain ⟨q0, q1, q2, q3, q4, q5, q6⟩ := iCells hS.r2; go_simp; (try with_reducible rfl)
        simp only [Act.put, List.getElem_toArray, List.getElem_cons_succ, List.getElem_cons_zero, List.setIfInBounds_toArray, List.set_cons_succ, List.set_cons_zero]
        refine wpAnyL_take (i := 4) (f0 := 26) (v := ?_) rfl (by decide +kernel) (by decide +kernel) (by decide +kernel) (by decide +kernel) (by decide +kernel) (fun _ _ _ h => h) (Or.inl ⟨by rfl, ?_⟩) hS2 ?_
        rotate_left
        · intro wS hS; go_simp; (try with_reducible rfl)
        simp only [Act.put, List.getElem_toArray, List.getElem_cons_succ, List.getElem_cons_zero, List.setIfInBounds_toArray, List.set_cons_succ, List.set_cons_zero]
        refine wpAnyL_take (i := 5) (f0 := 26) (v := ?_) rfl (by decide +kernel) (by decide +kernel) (by decide +kernel) (by decide +kernel) (by decide +kernel) (fun _ _ _ h => h) (Or.inl ⟨by rfl, ?_⟩) hS2 ?_
        rotate_left
        · intro wS hS; go_simp; (try with_reducible rfl)
        simp only [Act.put, List.getElem_toArray, List.getElem_cons_succ, List.getElem_cons_zero, List.setIfInBounds_toArray, List.set_cons_succ, List.set_cons_zero]
        refine wpAnyL_take (i := 6) (f0 := 26) (v := ?_) rfl (by decide +kernel) (by decide +kernel) (by decide +kernel) (by decide +kernel) (by decide +kernel) (fun _ _ _ h => h) (Or.inl ⟨by rfl, ?_⟩) hS2 ?_
        rotate_left
        · intro wS hS; go_simp; (try with_reducible rfl)
        simp only [Act.put, List.getElem_toArray, List.getElem_cons_succ, List.getElem_cons_zero, List.setIfInBounds_toArray, List.set_cons_succ, List.set_cons_zero]
        refine wpAnyL_take (i := 7) (f0 := 26) (v := undef) rfl (by decide +kernel) (by decide +kernel) (by decide +kernel) (by decide +kernel) (by decide +kernel) (fun _ _ _ h => h) (Or.inr ⟨by rfl, rfl⟩) hS2 ?_
        simp only [Act.put, List.getElem_toArray, List.getElem_cons_succ, List.getElem_cons_zero, List.setIfInBounds_toArray, List.set_cons_succ, List.set_cons_zero]
        refine wpAnyL_take (i := 8) (f0 := 26) (v := undef) rfl (by decide +kernel) (by decide +kernel) (by decide +kernel) (by decide +kernel) (by decide +kernel) (fun _ _ _ h => h) (Or.inr ⟨by rfl, rfl⟩) hS2 ?_
        simp only [Act.put, List.getElem_toArray, List.getElem_cons_succ, List.getElem_cons_zero, List.setIfInBounds_toArray, List.set_cons_succ, List.set_cons_zero]
        refine wpAnyL_take (i := 9) (f0 := 26) (v := undef) rfl (by decide +kernel) (by decide +kernel) (by decide +kernel) (by decide +kernel) (by decide +kernel) (fun _ _ _ h => h) (Or.inr ⟨by rfl, rfl⟩) hS2 ?_
        simp only [Act.put, List.getElem_toArray, List.getElem_cons_succ, List.getElem_cons_zero, List.setIfInBounds_toArray, List.set_cons_succ, List.set_cons_zero]
        refine wpAnyL_take (i := 10) (f0 := 26) (v := ?_) rfl (by decide +kernel) (by decide +kernel) (by decide +kernel) (by decide +kernel) (by decide +kernel) (fun _ _ _ h => h) (Or.inl ⟨by rfl, ?_⟩) hS2 ?_
        rotate_left
        · intro wS hS; go_simp; (try with_reducible rfl)
        simp only [Act.put, List.getElem_toArray, List.getElem_cons_succ, List.getElem_cons_zero, List.setIfInBounds_toArray, List.set_cons_succ, List.set_cons_zero]
        refine wpAnyL_take (i := 11) (f0 := 26) (v := ?_) rfl (by decide +kernel) (by decide +kernel) (by decide +kernel) (by decide +kernel) (by decide +kernel) (fun _ _ _ h => h) (Or.inl ⟨by rfl, ?_⟩) hS2 ?_
        rotate_left
        · intro wS hS; go_simp; (try with_reducible rfl)
        simp only [Act.put, List.getElem_toArray, List.getElem_cons_succ, List.getElem_cons_zero, List.setIfInBounds_toArray, List.set_cons_succ, List.set_cons_zero]
        refine wpAnyL_take (i := 12) (f0 := 26) (v := undef) rfl (by decide +kernel) (by decide +kernel) (by decide +kernel) (by decide +kernel) (by decide +kernel) (fun _ _ _ h => h) (Or.inr ⟨by rfl, rfl⟩) hS2 ?_
        simp only [Act.put, List.getElem_toArray, List.getElem_cons_succ, List.getElem_cons_zero, List.setIfInBounds_toArray, List.set_cons_succ, List.set_cons_zero]
        refine wpAnyL_take (i := 13) (f0 := 26) (v := undef) rfl (by decide +kernel) (by decide +kernel) (by decide +kernel) (by decide +kernel) (by decide +kernel) (fun _ _ _ h => h) (Or.inr ⟨by rfl, rfl⟩) hS2 ?_
        simp only [Act.put, List.getElem_toArray, List.getElem_cons_succ, List.getElem_cons_zero, List.setIfInBounds_toArray, List.set_cons_succ, List.set_cons_zero]
        refine wpAnyL_take (i := 14) (f0 := 26) (v := undef) rfl (by decide +kernel) (by decide +kernel) (by decide +kernel) (by decide +kernel) (by decide +kernel) (fun _ _ _ h => h) (Or.inr ⟨by rfl, rfl⟩) hS2 ?_
        simp only [Act.put, List.getElem_toArray, List.getElem_cons_succ, List.getElem_cons_zero, List.setIfInBounds_toArray, List.set_cons_succ, List.set_cons_zero]
        refine wpAnyL_take (i := 15) (f0 := 26) (v := undef) rfl (by decide +kernel) (by decide +kernel) (by decide +kernel) (by decide +kernel) (by decide +kernel) (fun _ _ _ h => h) (Or.inr ⟨by rfl, rfl⟩) hS2 ?_
        simp only [Act.put, List.getElem_toArray, List.getElem_cons_succ, List.getElem_cons_zero, List.setIfInBounds_toArray, List.set_cons_succ, List.set_cons_zero]
        refine wpAnyL_take (i := 16) (f0 := 26) (v := undef) rfl (by decide +kernel) (by decide +kernel) (by decide +kernel) (by decide +kernel) (by decide +kernel) (fun _ _ _ h => h) (Or.inr ⟨by rfl, rfl⟩) hS2 ?_
        simp only [Act.put, List.getElem_toArray, List.getElem_cons_succ, List.getElem_cons_zero, List.setIfInBounds_toArray, List.set_cons_succ, List.set_cons_zero]
        refine wpAnyL_take (i := 17) (f0 := 26) (v := undef) rfl (by decide +kernel) (by decide +kernel) (by decide +kernel) (by decide +kernel) (by decide +kernel) (fun _ _ _ h => h) (Or.inr ⟨by rfl, rfl⟩) hS2 ?_
        simp only [Act.put, List.getElem_toArray, List.getElem_cons_succ, List.getElem_cons_zero, List.setIfInBounds_toArray, List.set_cons_succ, List.set_cons_zero]
        refine wpAnyL_take (i := 18) (f0 := 26) (v := undef) rfl (by decide +kernel) (by decide +kernel) (by decide +kernel) (by decide +kernel) (by decide +kernel) (fun _ _ _ h => h) (Or.inr ⟨by rfl, rfl⟩) hS2 ?_
        simp only [Act.put, List.getElem_toArray, List.getElem_cons_succ, List.getElem_cons_zero, List.setIfInBounds_toArray, List.set_cons_succ, List.set_cons_zero]
        refine wpAnyL_take (i := 19) (f0 := 26) (v := undef) rfl (by decide +kernel) (by decide +kernel) (by decide +kernel) (by decide +kernel) (by decide +kernel) (fun _ _ _ h => h) (Or.inr ⟨by rfl, rfl⟩) hS2 ?_
        simp only [Act.put, List.getElem_toArray, List.getElem_cons_succ, List.getElem_cons_zero, List.setIfInBounds_toArray, List.set_cons_succ, List.set_cons_zero]
        refine wpAnyL_take (i := 20) (f0 := 26) (v := undef) rfl (by decide +kernel) (by decide +kernel) (by decide +kernel) (by decide +kernel) (by decide +kernel) (fun _ _ _ h => h) (Or.inr ⟨by rfl, rfl⟩) hS2 ?_
        simp only [Act.put, List.getElem_toArray, List.getElem_cons_succ, List.getElem_cons_zero, List.setIfInBounds_toArray, List.set_cons_succ, List.set_cons_zero]
        refine wpAnyL_take (i := 21) (f0 := 26) (v := undef) rfl (by decide +kernel) (by decide +kernel) (by decide +kernel) (by decide +kernel) (by decide +kernel) (fun _ _ _ h => h) (Or.inr ⟨by rfl, rfl⟩) hS2 ?_
        simp only [Act.put, List.getElem_toArray, List.getElem_cons_succ, List.getElem_cons_zero, List.setIfInBounds_toArray, List.set_cons_succ, List.set_cons_zero]
        refine wpAnyL_take (i := 22) (f0 := 26) (v := ?_) rfl (by decide +kernel) (by decide +kernel) (by decide +kernel) (by decide +kernel) (by decide +kernel) (fun _ _ _ h => h) (Or.inl ⟨by rfl, ?_⟩) hS2 ?_
        rotate_left
        · intro wS hS; go_simp; (try with_reducible rfl)
        simp only [Act.put, List.getElem_toArray, List.getElem_cons_succ, List.getElem_cons_zero, List.setIfInBounds_toArray, List.set_cons_succ, List.set_cons_zero]
        refine wpAnyL_take (i := 23) (f0 := 26) (v := ?_) rfl (by decide +kernel) (by decide +kernel) (by decide +kernel) (by decide +kernel) (by decide +kernel) (fun _ _ _ h => h) (Or.inl ⟨by rfl, ?_⟩) hS2 ?_
        rotate_left
        · intro wS hS; go_simp; (try with_reducible rfl)
        simp only [Act.put, List.getElem_toArray, List.getElem_cons_succ, List.getElem_cons_zero, List.setIfInBounds_toArray, List.set_cons_succ, List.set_cons_zero]
        refine wpAnyL_done (by decide +kernel) ?_ _
        refine NoPanic.normal ?_
        go_wp2
        go_ret
        exact ⟨ret_bool E9.out, hb2⟩
      | true =>
        rw [hN] at hne
        have HNO := hide hN
        clear hN
        cases hg : p.it.gone with
        | true =>
          have E9 := hide (show false = R by rw [← HR.out]; exact (checkP_gone hg).symm)
          obtain ⟨q0, q1, q2, q3, q4, q5, q6⟩ := iCells hS1.r2
          go_upto_region 3 with (fail)
          clear q0 q1 q2 q3 q4 q5 q6
          try clear hc1
          try clear hc2
          refine wp_region_noPanic ?_
          refine wp_region_L (PS w.heap.size (w.heap.size + 1) p A m c) 24 hmx ?_
          have hdr := (Below.refl w1.heap.size w1).drew
          have hS2 : (PS w.heap.size (w.heap.size + 1) p A m c) w1.drew := hS1.below hdr
          have hb2 := bnext hb1 hdr
          clear hdr hS1 hb1
          generalize w1.drew = w2 at *
          refine wpAnyL_take (i := 0) (f0 := 26) (v := ?_) rfl (by decide +kernel) (by decide +kernel) (by decide +kernel) (by decide +kernel) (by decide +kernel) (fun _ _ _ h => h) (Or.inl ⟨by rfl, ?_⟩) hS2 ?_
          rotate_left
          · intro wS hS; go_simp; (try with_reducible rfl)
          simp only [Act.put, List.getElem_toArray, List.getElem_cons_zero, List.setIfInBounds_toArray, List.set_cons_succ, List.set_cons_zero]
          refine wpAnyL_take (i := 1) (f0 := 26) (v := ?_) rfl (by decide +kernel) (by decide +kernel) (by decide +kernel) (by decide +kernel) (by decide +kernel) (fun _ _ _ h => h) (Or.inl ⟨by rfl, ?_⟩) hS2 ?_
          rotate_left
          · intro wS hS; go_simp; (try with_reducible rfl)
          simp only [Act.put, List.getElem_toArray, List.getElem_cons_succ, List.getElem_cons_zero, List.setIfInBounds_toArray, List.set_cons_succ, List.set_cons_zero]
          refine wpAnyL_take (i := 2) (f0 := 26) (v := ?_) rfl (by decide +kernel) (by decide +kernel) (by decide +kernel) (by decide +kernel) (by decide +kernel) (fun _ _ _ h => h) (Or.inl ⟨by rfl, ?_⟩) hS2 ?_
          rotate_left
          · intro wS hS; go_simp; (try with_reducible rfl)
          simp only [Act.put, List.getElem_toArray, List.getElem_cons_succ, List.getElem_cons_zero, List.setIfInBounds_toArray, List.set_cons_succ, List.set_cons_zero]
          refine wpAnyL_take (i := 3) (f0 := 26) (v := ?_) rfl (by decide +kernel) (by decide +kernel) (by decide +kernel) (by decide +kernel) (by decide +kernel) (fun _ _ _ h => h) (Or.inl ⟨by rfl, ?_⟩) hS2 ?_
          rotate_left
          · intro wS hS; obtain ⟨q0, q1, q2, q3, q4, q5, q6⟩ := iCells hS.r2; go_simp; (try with_reducible rfl)
          simp only [Act.put, List.getElem_toArray, List.getElem_cons_succ, List.getElem_cons_zero, List.setIfInBounds_toArray, List.set_cons_succ, List.set_cons_zero]
          refine wpAnyL_take (i := 4) (f0 := 26) (v := ?_) rfl (by decide +kernel) (by decide +kernel) (by decide +kernel) (by decide +kernel) (by decide +kernel) (fun _ _ _ h => h) (Or.inl ⟨by rfl, ?_⟩) hS2 ?_
          rotate_left
          · intro wS hS; go_simp; (try with_reducible rfl)
          simp only [Act.put, List.getElem_toArray, List.getElem_cons_succ, List.getElem_cons_zero, List.setIfInBounds_toArray, List.set_cons_succ, List.set_cons_zero]
          refine wpAnyL_take (i := 5) (f0 := 26) (v := ?_) rfl (by decide +kernel) (by decide +kernel) (by decide +kernel) (by decide +kernel) (by decide +kernel) (fun _ _ _ h => h) (Or.inl ⟨by rfl, ?_⟩) hS2 ?_
          rotate_left
          · intro wS hS; go_simp; (try with_reducible rfl)
          simp only [Act.put, List.getElem_toArray, List.getElem_cons_succ, List.getElem_cons_zero, List.setIfInBounds_toArray, List.set_cons_succ, List.set_cons_zero]
          refine wpAnyL_take (i := 6) (f0 := 26) (v := ?_) rfl (by decide +kernel) (by decide +kernel) (by decide +kernel) (by decide +kernel) (by decide +kernel) (fun _ _ _ h => h) (Or.inl ⟨by rfl, ?_⟩) hS2 ?_
          rotate_left
          · intro wS hS; go_simp; (try with_reducible rfl)
          simp only [Act.put, List.getElem_toArray, List.getElem_cons_succ, List.getElem_cons_zero, List.setIfInBounds_toArray, List.set_cons_succ, List.set_cons_zero]
          refine wpAnyL_take (i := 7) (f0 := 26) (v := ?_) rfl (by decide +kernel) (by decide +kernel) (by decide +kernel) (by decide +kernel) (by decide +kernel) (fun _ _ _ h => h) (Or.inl ⟨by rfl, ?_⟩) hS2 ?_
          rotate_left
          · intro wS hS; go_simp; (try with_reducible rfl)
          simp only [Act.put, List.getElem_toArray, List.getElem_cons_succ, List.getElem_cons_zero, List.setIfInBounds_toArray, List.set_cons_succ, List.set_cons_zero]
          refine wpAnyL_take (i := 8) (f0 := 26) (v := ?_) rfl (by decide +kernel) (by decide +kernel) (by decide +kernel) (by decide +kernel) (by decide +kernel) (fun _ _ _ h => h) (Or.inl ⟨by rfl, ?_⟩) hS2 ?_
          rotate_left
          · intro wS hS; obtain ⟨q0, q1, q2, q3, q4, q5, q6⟩ := iCells hS.r2; go_simp; (try with_reducible rfl)
          simp only [Act.put, List.getElem_toArray, List.getElem_cons_succ, List.getElem_cons_zero, List.setIfInBounds_toArray, List.set_cons_succ, List.set_cons_zero]
          refine wpAnyL_take (i := 9) (f0 := 26) (v := ?_) rfl (by decide +kernel) (by decide +kernel) (by decide +kernel) (by decide +kernel) (by decide +kernel) (fun _ _ _ h => h) (Or.inl ⟨by rfl, ?_⟩) hS2 ?_
          rotate_left
          · intro wS hS; go_simp; (try with_reducible rfl)
          simp only [Act.put, List.getElem_toArray, List.getElem_cons_succ, List.getElem_cons_zero, List.setIfInBounds_toArray, List.set_cons_succ, List.set_cons_zero]
          refine wpAnyL_take (i := 10) (f0 := 26) (v := ?_) rfl (by decide +kernel) (by decide +kernel) (by decide +kernel) (by decide +kernel) (by decide +kernel) (fun _ _ _ h => h) (Or.inl ⟨by rfl, ?_⟩) hS2 ?_
          rotate_left
          · intro wS hS; go_simp; (try with_reducible rfl)
          simp only [Act.put, List.getElem_toArray, List.getElem_cons_succ, List.getElem_cons_zero, List.setIfInBounds_toArray, List.set_cons_succ, List.set_cons_zero]
          refine wpAnyL_take (i := 11) (f0 := 26) (v := ?_) rfl (by decide +kernel) (by decide +kernel) (by decide +kernel) (by decide +kernel) (by decide +kernel) (fun _ _ _ h => h) (Or.inl ⟨by rfl, ?_⟩) hS2 ?_
          rotate_left
          · intro wS hS; go_simp; (try with_reducible rfl)
          simp only [Act.put, List.getElem_toArray, List.getElem_cons_succ, List.getElem_cons_zero, List.setIfInBounds_toArray, List.set_cons_succ, List.set_cons_zero]
          refine wpAnyL_take (i := 12) (f0 := 26) (v := undef) rfl (by decide +kernel) (by decide +kernel) (by decide +kernel) (by decide +kernel) (by decide +kernel) (fun _ _ _ h => h) (Or.inr ⟨by rfl, rfl⟩) hS2 ?_
          simp only [Act.put, List.getElem_toArray, List.getElem_cons_succ, List.getElem_cons_zero, List.setIfInBounds_toArray, List.set_cons_succ, List.set_cons_zero]
          refine wpAnyL_take (i := 13) (f0 := 26) (v := undef) rfl (by decide +kernel) (by decide +kernel) (by decide +kernel) (by decide +kernel) (by decide +kernel) (fun _ _ _ h => h) (Or.inr ⟨by rfl, rfl⟩) hS2 ?_
          simp only [Act.put, List.getElem_toArray, List.getElem_cons_succ, List.getElem_cons_zero, List.setIfInBounds_toArray, List.set_cons_succ, List.set_cons_zero]
          refine wpAnyL_take (i := 14) (f0 := 26) (v := undef) rfl (by decide +kernel) (by decide +kernel) (by decide +kernel) (by decide +kernel) (by decide +kernel) (fun _ _ _ h => h) (Or.inr ⟨by rfl, rfl⟩) hS2 ?_
          simp only [Act.put, List.getElem_toArray, List.getElem_cons_succ, List.getElem_cons_zero, List.setIfInBounds_toArray, List.set_cons_succ, List.set_cons_zero]
          refine wpAnyL_take (i := 15) (f0 := 26) (v := undef) rfl (by decide +kernel) (by decide +kernel) (by decide +kernel) (by decide +kernel) (by decide +kernel) (fun _ _ _ h => h) (Or.inr ⟨by rfl, rfl⟩) hS2 ?_
          simp only [Act.put, List.getElem_toArray, List.getElem_cons_succ, List.getElem_cons_zero, List.setIfInBounds_toArray, List.set_cons_succ, List.set_cons_zero]
          refine wpAnyL_take (i := 16) (f0 := 26) (v := undef) rfl (by decide +kernel) (by decide +kernel) (by decide +kernel) (by decide +kernel) (by decide +kernel) (fun _ _ _ h => h) (Or.inr ⟨by rfl, rfl⟩) hS2 ?_
          simp only [Act.put, List.getElem_toArray, List.getElem_cons_succ, List.getElem_cons_zero, List.setIfInBounds_toArray, List.set_cons_succ, List.set_cons_zero]
          refine wpAnyL_take (i := 17) (f0 := 26) (v := undef) rfl (by decide +kernel) (by decide +kernel) (by decide +kernel) (by decide +kernel) (by decide +kernel) (fun _ _ _ h => h) (Or.inr ⟨by rfl, rfl⟩) hS2 ?_
          simp only [Act.put, List.getElem_toArray, List.getElem_cons_succ, List.getElem_cons_zero, List.setIfInBounds_toArray, List.set_cons_succ, List.set_cons_zero]
          refine wpAnyL_take (i := 18) (f0 := 26) (v := undef) rfl (by decide +kernel) (by decide +kernel) (by decide +kernel) (by decide +kernel) (by decide +kernel) (fun _ _ _ h => h) (Or.inr ⟨by rfl, rfl⟩) hS2 ?_
          simp only [Act.put, List.getElem_toArray, List.getElem_cons_succ, List.getElem_cons_zero, List.setIfInBounds_toArray, List.set_cons_succ, List.set_cons_zero]
          refine wpAnyL_take (i := 19) (f0 := 26) (v := undef) rfl (by decide +kernel) (by decide +kernel) (by decide +kernel) (by decide +kernel) (by decide +kernel) (fun _ _ _ h => h) (Or.inr ⟨by rfl, rfl⟩) hS2 ?_
          simp only [Act.put, List.getElem_toArray, List.getElem_cons_succ, List.getElem_cons_zero, List.setIfInBounds_toArray, List.set_cons_succ, List.set_cons_zero]
          refine wpAnyL_take (i := 20) (f0 := 26) (v := undef) rfl (by decide +kernel) (by decide +kernel) (by decide +kernel) (by decide +kernel) (by decide +kernel) (fun _ _ _ h => h) (Or.inr ⟨by rfl, rfl⟩) hS2 ?_
          simp only [Act.put, List.getElem_toArray, List.getElem_cons_succ, List.getElem_cons_zero, List.setIfInBounds_toArray, List.set_cons_succ, List.set_cons_zero]
          refine wpAnyL_take (i := 21) (f0 := 26) (v := undef) rfl (by decide +kernel) (by decide +kernel) (by decide +kernel) (by decide +kernel) (by decide +kernel) (fun _ _ _ h => h) (Or.inr ⟨by rfl, rfl⟩) hS2 ?_
          simp only [Act.put, List.getElem_toArray, List.getElem_cons_succ, List.getElem_cons_zero, List.setIfInBounds_toArray, List.set_cons_succ, List.set_cons_zero]
          refine wpAnyL_take (i := 22) (f0 := 26) (v := ?_) rfl (by decide +kernel) (by decide +kernel) (by decide +kernel) (by decide +kernel) (by decide +kernel) (fun _ _ _ h => h) (Or.inl ⟨by rfl, ?_⟩) hS2 ?_
          rotate_left
          · intro wS hS; go_simp; (try with_reducible rfl)
          simp only [Act.put, List.getElem_toArray, List.getElem_cons_succ, List.getElem_cons_zero, List.setIfInBounds_toArray, List.set_cons_succ, List.set_cons_zero]
          refine wpAnyL_take (i := 23) (f0 := 26) (v := ?_) rfl (by decide +kernel) (by decide +kernel) (by decide +kernel) (by decide +kernel) (by decide +kernel) (fun _ _ _ h => h) (Or.inl ⟨by rfl, ?_⟩) hS2 ?_
          rotate_left
          · intro wS hS; go_simp; (try with_reducible rfl)
          simp only [Act.put, List.getElem_toArray, List.getElem_cons_succ, List.getElem_cons_zero, List.setIfInBounds_toArray, List.set_cons_succ, List.set_cons_zero]
          refine wpAnyL_done (by decide +kernel) ?_ _
          refine NoPanic.normal ?_
          go_wp2
          go_ret
          exact ⟨ret_bool E9.out, hb2⟩
        | false =>
          obtain ⟨q0, q1, q2, q3, q4, q5, q6⟩ := iCells hS1.r2
          go_upto_region 3 with (fail)
          clear q0 q1 q2 q3 q4 q5 q6
          try clear hc1
          try clear hc2
          refine wp_region_noPanic ?_
          refine wp_region_L (PS w.heap.size (w.heap.size + 1) p A m c) 24 hmx ?_
          have hdr := (Below.refl w1.heap.size w1).drew
          have hS2 : (PS w.heap.size (w.heap.size + 1) p A m c) w1.drew := hS1.below hdr
          have hb2 := bnext hb1 hdr
          clear hdr hS1 hb1
          generalize w1.drew = w2 at *
          obtain ⟨LF, hLF⟩ : ∃ K, Dg.leafI p.it = K := ⟨_, rfl⟩
          have HKZ := hide (show LF.size ≤ 1048576 by rw [← hLF]; exact leafI_size2 HZ.out)
          have HC := hide (show checkB root p.count p.idx LF p.path = R by rw [← HR.out, checkP_rest HKO.out HNO.out hg, hLF])
          have HLF := hide hLF
          clear hLF
          refine wpAnyL_take (i := 0) (f0 := 26) (v := ?_) rfl (by decide +kernel) (by decide +kernel) (by decide +kernel) (by decide +kernel) (by decide +kernel) (fun _ _ _ h => h) (Or.inl ⟨by rfl, ?_⟩) hS2 ?_
          rotate_left
          · intro wS hS; go_simp; (try with_reducible rfl)
          simp only [Act.put, List.getElem_toArray, List.getElem_cons_zero, List.setIfInBounds_toArray, List.set_cons_succ, List.set_cons_zero]
          refine wpAnyL_take (i := 1) (f0 := 26) (v := ?_) rfl (by decide +kernel) (by decide +kernel) (by decide +kernel) (by decide +kernel) (by decide +kernel) (fun _ _ _ h => h) (Or.inl ⟨by rfl, ?_⟩) hS2 ?_
          rotate_left
          · intro wS hS; go_simp; (try with_reducible rfl)
          simp only [Act.put, List.getElem_toArray, List.getElem_cons_succ, List.getElem_cons_zero, List.setIfInBounds_toArray, List.set_cons_succ, List.set_cons_zero]
          refine wpAnyL_take (i := 2) (f0 := 26) (v := ?_) rfl (by decide +kernel) (by decide +kernel) (by decide +kernel) (by decide +kernel) (by decide +kernel) (fun _ _ _ h => h) (Or.inl ⟨by rfl, ?_⟩) hS2 ?_
          rotate_left
          · intro wS hS; go_simp; (try with_reducible rfl)
          simp only [Act.put, List.getElem_toArray, List.getElem_cons_succ, List.getElem_cons_zero, List.setIfInBounds_toArray, List.set_cons_succ, List.set_cons_zero]
          refine wpAnyL_take (i := 3) (f0 := 26) (v := ?_) rfl (by decide +kernel) (by decide +kernel) (by decide +kernel) (by decide +kernel) (by decide +kernel) (fun _ _ _ h => h) (Or.inl ⟨by rfl, ?_⟩) hS2 ?_
          rotate_left
          · intro wS hS; obtain ⟨q0, q1, q2, q3, q4, q5, q6⟩ := iCells hS.r2; go_simp; (try with_reducible rfl)
          simp only [Act.put, List.getElem_toArray, List.getElem_cons_succ, List.getElem_cons_zero, List.setIfInBounds_toArray, List.set_cons_succ, List.set_cons_zero]
          refine wpAnyL_take (i := 4) (f0 := 26) (v := ?_) rfl (by decide +kernel) (by decide +kernel) (by decide +kernel) (by decide +kernel) (by decide +kernel) (fun _ _ _ h => h) (Or.inl ⟨by rfl, ?_⟩) hS2 ?_
          rotate_left
          · intro wS hS; go_simp; (try with_reducible rfl)
          simp only [Act.put, List.getElem_toArray, List.getElem_cons_succ, List.getElem_cons_zero, List.setIfInBounds_toArray, List.set_cons_succ, List.set_cons_zero]
          refine wpAnyL_take (i := 5) (f0 := 26) (v := ?_) rfl (by decide +kernel) (by decide +kernel) (by decide +kernel) (by decide +kernel) (by decide +kernel) (fun _ _ _ h => h) (Or.inl ⟨by rfl, ?_⟩) hS2 ?_
          rotate_left
          · intro wS hS; go_simp; (try with_reducible rfl)
          simp only [Act.put, List.getElem_toArray, List.getElem_cons_succ, List.getElem_cons_zero, List.setIfInBounds_toArray, List.set_cons_succ, List.set_cons_zero]
          refine wpAnyL_take (i := 6) (f0 := 26) (v := ?_) rfl (by decide +kernel) (by decide +kernel) (by decide +kernel) (by decide +kernel) (by decide +kernel) (fun _ _ _ h => h) (Or.inl ⟨by rfl, ?_⟩) hS2 ?_
          rotate_left
          · intro wS hS; go_simp; (try with_reducible rfl)
          simp only [Act.put, List.getElem_toArray, List.getElem_cons_succ, List.getElem_cons_zero, List.setIfInBounds_toArray, List.set_cons_succ, List.set_cons_zero]
          refine wpAnyL_take (i := 7) (f0 := 26) (v := ?_) rfl (by decide +kernel) (by decide +kernel) (by decide +kernel) (by decide +kernel) (by decide +kernel) (fun _ _ _ h => h) (Or.inl ⟨by rfl, ?_⟩) hS2 ?_
          rotate_left
          · intro wS hS; go_simp; (try with_reducible rfl)
          simp only [Act.put, List.getElem_toArray, List.getElem_cons_succ, List.getElem_cons_zero, List.setIfInBounds_toArray, List.set_cons_succ, List.set_cons_zero]
          refine wpAnyL_take (i := 8) (f0 := 26) (v := ?_) rfl (by decide +kernel) (by decide +kernel) (by decide +kernel) (by decide +kernel) (by decide +kernel) (fun _ _ _ h => h) (Or.inl ⟨by rfl, ?_⟩) hS2 ?_
          rotate_left
          · intro wS hS; obtain ⟨q0, q1, q2, q3, q4, q5, q6⟩ := iCells hS.r2; go_simp; (try with_reducible rfl)
          simp only [Act.put, List.getElem_toArray, List.getElem_cons_succ, List.getElem_cons_zero, List.setIfInBounds_toArray, List.set_cons_succ, List.set_cons_zero]
          refine wpAnyL_take (i := 9) (f0 := 26) (v := ?_) rfl (by decide +kernel) (by decide +kernel) (by decide +kernel) (by decide +kernel) (by decide +kernel) (fun _ _ _ h => h) (Or.inl ⟨by rfl, ?_⟩) hS2 ?_
          rotate_left
          · intro wS hS; go_simp; (try with_reducible rfl)
          simp only [Act.put, List.getElem_toArray, List.getElem_cons_succ, List.getElem_cons_zero, List.setIfInBounds_toArray, List.set_cons_succ, List.set_cons_zero]
          refine wpAnyL_take (i := 10) (f0 := 26) (v := ?_) rfl (by decide +kernel) (by decide +kernel) (by decide +kernel) (by decide +kernel) (by decide +kernel) (fun _ _ _ h => h) (Or.inl ⟨by rfl, ?_⟩) hS2 ?_
          rotate_left
          · intro wS hS; go_simp; (try with_reducible rfl)
          simp only [Act.put, List.getElem_toArray, List.getElem_cons_succ, List.getElem_cons_zero, List.setIfInBounds_toArray, List.set_cons_succ, List.set_cons_zero]
          refine wpAnyL_take (i := 11) (f0 := 26) (v := ?_) rfl (by decide +kernel) (by decide +kernel) (by decide +kernel) (by decide +kernel) (by decide +kernel) (fun _ _ _ h => h) (Or.inl ⟨by rfl, ?_⟩) hS2 ?_
          rotate_left
          · intro wS hS; go_simp; (try with_reducible rfl)
          simp only [Act.put, List.getElem_toArray, List.getElem_cons_succ, List.getElem_cons_zero, List.setIfInBounds_toArray, List.set_cons_succ, List.set_cons_zero]
          refine wpAnyL_take (i := 12) (f0 := 26) (v := ?_) rfl (by decide +kernel) (by decide +kernel) (by decide +kernel) (by decide +kernel) (by decide +kernel) (fun _ _ _ h => h) (Or.inl ⟨by rfl, ?_⟩) hS2 ?_
          rotate_left
          · intro wS hS; go_simp; (try with_reducible rfl)
          simp only [Act.put, List.getElem_toArray, List.getElem_cons_succ, List.getElem_cons_zero, List.setIfInBounds_toArray, List.set_cons_succ, List.set_cons_zero]
          refine wpAnyL_take (i := 13) (f0 := 26) (v := ?_) rfl (by decide +kernel) (by decide +kernel) (by decide +kernel) (by decide +kernel) (by decide +kernel) (fun _ _ _ h => h) (Or.inl ⟨by rfl, ?_⟩) hS2 ?_
          rotate_left
          · intro wS hS; go_simp; (try with_reducible rfl)
          simp only [Act.put, List.getElem_toArray, List.getElem_cons_succ, List.getElem_cons_zero, List.setIfInBounds_toArray, List.set_cons_succ, List.set_cons_zero]
          refine wpAnyL_take (i := 14) (f0 := 26) (v := ?_) rfl (by decide +kernel) (by decide +kernel) (by decide +kernel) (by decide +kernel) (by decide +kernel) (fun _ _ _ h => h) (Or.inl ⟨by rfl, ?_⟩) hS2 ?_
          rotate_left
          · intro wS hS; obtain ⟨q0, q1, q2, q3, q4, q5, q6, q7, q8, q9⟩ := jCells10 hS.r1; go_simp; (try with_reducible rfl)
          simp only [Act.put, List.getElem_toArray, List.getElem_cons_succ, List.getElem_cons_zero, List.setIfInBounds_toArray, List.set_cons_succ, List.set_cons_zero]
          refine wpAnyL_take (i := 15) (f0 := 26) (v := ?_) rfl (by decide +kernel) (by decide +kernel) (by decide +kernel) (by decide +kernel) (by decide +kernel) (fun _ _ _ h => h) (Or.inl ⟨by rfl, ?_⟩) hS2 ?_
          rotate_left
          · intro wS hS; go_simp; (try with_reducible rfl)
          simp only [Act.put, List.getElem_toArray, List.getElem_cons_succ, List.getElem_cons_zero, List.setIfInBounds_toArray, List.set_cons_succ, List.set_cons_zero]
          refine wpAnyL_take (i := 16) (f0 := 26) (v := ?_) rfl (by decide +kernel) (by decide +kernel) (by decide +kernel) (by decide +kernel) (by decide +kernel) (fun _ _ _ h => h) (Or.inl ⟨by rfl, ?_⟩) hS2 ?_
          rotate_left
          · intro wS hS; obtain ⟨q0, q1, q2, q3, q4, q5, q6, q7, q8, q9⟩ := jCells10 hS.r1; go_simp; (try with_reducible rfl)
          simp only [Act.put, List.getElem_toArray, List.getElem_cons_succ, List.getElem_cons_zero, List.setIfInBounds_toArray, List.set_cons_succ, List.set_cons_zero]
          refine wpAnyL_take (i := 17) (f0 := 26) (v := ?_) rfl (by decide +kernel) (by decide +kernel) (by decide +kernel) (by decide +kernel) (by decide +kernel) (fun _ _ _ h => h) (Or.inl ⟨by rfl, ?_⟩) hS2 ?_
          rotate_left
          · intro wS hS; obtain ⟨q0, q1, q2, q3, q4, q5, q6⟩ := iCells hS.r2; go_simp; (try with_reducible rfl)
          simp only [Act.put, List.getElem_toArray, List.getElem_cons_succ, List.getElem_cons_zero, List.setIfInBounds_toArray, List.set_cons_succ, List.set_cons_zero]
          refine wpAnyL_take (i := 19) (f0 := 26) (v := ?_) rfl (by decide +kernel) (by decide +kernel) (by decide +kernel) (by decide +kernel) (by decide +kernel) (fun _ _ _ h => h) (Or.inl ⟨by rfl, ?_⟩) hS2 ?_
          rotate_left
          · intro wS hS; go_simp; (try with_reducible rfl)
          simp only [Act.put, List.getElem_toArray, List.getElem_cons_succ, List.getElem_cons_zero, List.setIfInBounds_toArray, List.set_cons_succ, List.set_cons_zero]
          refine wpAnyL_take (i := 20) (f0 := 26) (v := ?_) rfl (by decide +kernel) (by decide +kernel) (by decide +kernel) (by decide +kernel) (by decide +kernel) (fun _ _ _ h => h) (Or.inl ⟨by rfl, ?_⟩) hS2 ?_
          rotate_left
          · intro wS hS; obtain ⟨q0, q1, q2, q3, q4, q5, q6, q7, q8, q9⟩ := jCells10 hS.r1; go_simp; (try with_reducible rfl)
          simp only [Act.put, List.getElem_toArray, List.getElem_cons_succ, List.getElem_cons_zero, List.setIfInBounds_toArray, List.set_cons_succ, List.set_cons_zero]
          refine wpAnyL_one (i := 18) (by decide +kernel) (by rfl) (fun K hK => ?_)
          rw [if_pos (by rfl)]
          go_simp
          refine (pleaf_g p.it false (fun s hs => Nat.le_trans (HZ.out s hs) (by decide)) w2 (HE.out.next hb2) LF HLF.out).mono ?_
          rintro e w3 ⟨rfl, hx3⟩
          have hS3 : (PS w.heap.size (w.heap.size + 1) p A m c) w3 := hS2.below hx3
          have hb3 := bnext hb2 hx3
          refine hK.out _ _ (Or.inr hS3) ?_
          clear hK K hS2 hb2 hx3
          try simp only [Act.put, List.getElem_toArray, List.getElem_cons_succ, List.getElem_cons_zero, List.setIfInBounds_toArray, List.set_cons_succ, List.set_cons_zero]
          refine wpAnyL_one (i := 21) (by decide +kernel) (by rfl) (fun K hK => ?_)
          rw [if_pos (by rfl)]
          go_simp
          refine (check_of root p.count p.idx LF A c m p.path R HC.out w3 (HE.out.next hb3) HM.out hm2 (fun s hs => Nat.le_trans (HPS.out s hs) (by decide)) (by have := HKZ.out; omega) hS3.path).mono ?_
          rintro e w4 ⟨rfl, hx4⟩
          have hS4 : (PS w.heap.size (w.heap.size + 1) p A m c) w4 := hS3.below hx4
          have hb4 := bnext hb3 hx4
          refine hK.out _ _ (Or.inr hS4) ?_
          clear hK K hS3 hb3 hx4
          try simp only [Act.put, List.getElem_toArray, List.getElem_cons_succ, List.getElem_cons_zero, List.setIfInBounds_toArray, List.set_cons_succ, List.set_cons_zero]
          refine wpAnyL_take (i := 22) (f0 := 26) (v := ?_) rfl (by decide +kernel) (by decide +kernel) (by decide +kernel) (by decide +kernel) (by decide +kernel) (fun _ _ _ h => h) (Or.inl ⟨by rfl, ?_⟩) hS4 ?_
          rotate_left
          · intro wS hS; go_simp; (try with_reducible rfl)
          simp only [Act.put, List.getElem_toArray, List.getElem_cons_succ, List.getElem_cons_zero, List.setIfInBounds_toArray, List.set_cons_succ, List.set_cons_zero]
          refine wpAnyL_take (i := 23) (f0 := 26) (v := ?_) rfl (by decide +kernel) (by decide +kernel) (by decide +kernel) (by decide +kernel) (by decide +kernel) (fun _ _ _ h => h) (Or.inl ⟨by rfl, ?_⟩) hS4 ?_
          rotate_left
          · intro wS hS; go_simp; (try with_reducible rfl)
          simp only [Act.put, List.getElem_toArray, List.getElem_cons_succ, List.getElem_cons_zero, List.setIfInBounds_toArray, List.set_cons_succ, List.set_cons_zero]
          refine wpAnyL_done (by decide +kernel) ?_ _
          refine NoPanic.normal ?_
          go_wp2
          go_ret
          exact ⟨rfl, hb4⟩
    · have kb1 : (p.it.kind == 1) = false := beq_eq_false_iff_ne.2 k1
      clear k1
      have E9 := hide (show false = R by rw [← HR.out]; exact (checkP_kind (by unfold kindOk; rw [kb2, kb1]; rfl)).symm)
      obtain ⟨q0, q1, q2, q3, q4, q5, q6⟩ := iCells hS1.r2
      go_upto_region 3 with (fail)
      clear q0 q1 q2 q3 q4 q5 q6
      try clear hc1
      try clear hc2
      refine wp_region_noPanic ?_
      refine wp_region_L (PS w.heap.size (w.heap.size + 1) p A m c) 24 hmx ?_
      have hdr := (Below.refl w1.heap.size w1).drew
      have hS2 : (PS w.heap.size (w.heap.size + 1) p A m c) w1.drew := hS1.below hdr
      have hb2 := bnext hb1 hdr
      clear hdr hS1 hb1
      generalize w1.drew = w2 at *
      refine wpAnyL_take (i := 0) (f0 := 26) (v := ?_) rfl (by decide +kernel) (by decide +kernel) (by decide +kernel) (by decide +kernel) (by decide +kernel) (fun _ _ _ h => h) (Or.inl ⟨by rfl, ?_⟩) hS2 ?_
      rotate_left
      · intro wS hS; go_simp; (try with_reducible rfl)
      simp only [Act.put, List.getElem_toArray, List.getElem_cons_zero, List.setIfInBounds_toArray, List.set_cons_succ, List.set_cons_zero]
      refine wpAnyL_take (i := 1) (f0 := 26) (v := ?_) rfl (by decide +kernel) (by decide +kernel) (by decide +kernel) (by decide +kernel) (by decide +kernel) (fun _ _ _ h => h) (Or.inl ⟨by rfl, ?_⟩) hS2 ?_
      rotate_left
      · intro wS hS; go_simp; (try with_reducible rfl)
      simp only [Act.put, List.getElem_toArray, List.getElem_cons_succ, List.getElem_cons_zero, List.setIfInBounds_toArray, List.set_cons_succ, List.set_cons_zero]
      refine wpAnyL_take (i := 2) (f0 := 26) (v := undef) rfl (by decide +kernel) (by decide +kernel) (by decide +kernel) (by decide +kernel) (by decide +kernel) (fun _ _ _ h => h) (Or.inr ⟨by rfl, rfl⟩) hS2 ?_
      simp only [Act.put, List.getElem_toArray, List.getElem_cons_succ, List.getElem_cons_zero, List.setIfInBounds_toArray, List.set_cons_succ, List.set_cons_zero]
      refine wpAnyL_take (i := 3) (f0 := 26) (v := undef) rfl (by decide +kernel) (by decide +kernel) (by decide +kernel) (by decide +kernel) (by decide +kernel) (fun _ _ _ h => h) (Or.inr ⟨by rfl, rfl⟩) hS2 ?_
      simp only [Act.put, List.getElem_toArray, List.getElem_cons_succ, List.getElem_cons_zero, List.setIfInBounds_toArray, List.set_cons_succ, List.set_cons_zero]
      refine wpAnyL_take (i := 4) (f0 := 26) (v := undef) rfl (by decide +kernel) (by decide +kernel) (by decide +kernel) (by decide +kernel) (by decide +kernel) (fun _ _ _ h => h) (Or.inr ⟨by rfl, rfl⟩) hS2 ?_
      simp only [Act.put, List.getElem_toArray, List.getElem_cons_succ, List.getElem_cons_zero, List.setIfInBounds_toArray, List.set_cons_succ, List.set_cons_zero]
      refine wpAnyL_take (i := 5) (f0 := 26) (v := ?_) rfl (by decide +kernel) (by decide +kernel) (by decide +kernel) (by decide +kernel) (by decide +kernel) (fun _ _ _ h => h) (Or.inl ⟨by rfl, ?_⟩) hS2 ?_
      rotate_left
      · intro wS hS; go_simp; (try with_reducible rfl)
      simp only [Act.put, List.getElem_toArray, List.getElem_cons_succ, List.getElem_cons_zero, List.setIfInBounds_toArray, List.set_cons_succ, List.set_cons_zero]
      refine wpAnyL_take (i := 6) (f0 := 26) (v := ?_) rfl (by decide +kernel) (by decide +kernel) (by decide +kernel) (by decide +kernel) (by decide +kernel) (fun _ _ _ h => h) (Or.inl ⟨by rfl, ?_⟩) hS2 ?_
      rotate_left
      · intro wS hS; go_simp; (try with_reducible rfl)
      simp only [Act.put, List.getElem_toArray, List.getElem_cons_succ, List.getElem_cons_zero, List.setIfInBounds_toArray, List.set_cons_succ, List.set_cons_zero]
      refine wpAnyL_take (i := 7) (f0 := 26) (v := undef) rfl (by decide +kernel) (by decide +kernel) (by decide +kernel) (by decide +kernel) (by decide +kernel) (fun _ _ _ h => h) (Or.inr ⟨by rfl, rfl⟩) hS2 ?_
      simp only [Act.put, List.getElem_toArray, List.getElem_cons_succ, List.getElem_cons_zero, List.setIfInBounds_toArray, List.set_cons_succ, List.set_cons_zero]
      refine wpAnyL_take (i := 8) (f0 := 26) (v := undef) rfl (by decide +kernel) (by decide +kernel) (by decide +kernel) (by decide +kernel) (by decide +kernel) (fun _ _ _ h => h) (Or.inr ⟨by rfl, rfl⟩) hS2 ?_
      simp only [Act.put, List.getElem_toArray, List.getElem_cons_succ, List.getElem_cons_zero, List.setIfInBounds_toArray, List.set_cons_succ, List.set_cons_zero]
      refine wpAnyL_take (i := 9) (f0 := 26) (v := undef) rfl (by decide +kernel) (by decide +kernel) (by decide +kernel) (by decide +kernel) (by decide +kernel) (fun _ _ _ h => h) (Or.inr ⟨by rfl, rfl⟩) hS2 ?_
      simp only [Act.put, List.getElem_toArray, List.getElem_cons_succ, List.getElem_cons_zero, List.setIfInBounds_toArray, List.set_cons_succ, List.set_cons_zero]
      refine wpAnyL_take (i := 10) (f0 := 26) (v := ?_) rfl (by decide +kernel) (by decide +kernel) (by decide +kernel) (by decide +kernel) (by decide +kernel) (fun _ _ _ h => h) (Or.inl ⟨by rfl, ?_⟩) hS2 ?_
      rotate_left
      · intro wS hS; go_simp; (try with_reducible rfl)
      simp only [Act.put, List.getElem_toArray, List.getElem_cons_succ, List.getElem_cons_zero, List.setIfInBounds_toArray, List.set_cons_succ, List.set_cons_zero]
      refine wpAnyL_take (i := 11) (f0 := 26) (v := ?_) rfl (by decide +kernel) (by decide +kernel) (by decide +kernel) (by decide +kernel) (by decide +kernel) (fun _ _ _ h => h) (Or.inl ⟨by rfl, ?_⟩) hS2 ?_
      rotate_left
      · intro wS hS; go_simp; (try with_reducible rfl)
      simp only [Act.put, List.getElem_toArray, List.getElem_cons_succ, List.getElem_cons_zero, List.setIfInBounds_toArray, List.set_cons_succ, List.set_cons_zero]
      refine wpAnyL_take (i := 12) (f0 := 26) (v := undef) rfl (by decide +kernel) (by decide +kernel) (by decide +kernel) (by decide +kernel) (by decide +kernel) (fun _ _ _ h => h) (Or.inr ⟨by rfl, rfl⟩) hS2 ?_
      simp only [Act.put, List.getElem_toArray, List.getElem_cons_succ, List.getElem_cons_zero, List.setIfInBounds_toArray, List.set_cons_succ, List.set_cons_zero]
      refine wpAnyL_take (i := 13) (f0 := 26) (v := undef) rfl (by decide +kernel) (by decide +kernel) (by decide +kernel) (by decide +kernel) (by decide +kernel) (fun _ _ _ h => h) (Or.inr ⟨by rfl, rfl⟩) hS2 ?_
      simp only [Act.put, List.getElem_toArray, List.getElem_cons_succ, List.getElem_cons_zero, List.setIfInBounds_toArray, List.set_cons_succ, List.set_cons_zero]
      refine wpAnyL_take (i := 14) (f0 := 26) (v := undef) rfl (by decide +kernel) (by decide +kernel) (by decide +kernel) (by decide +kernel) (by decide +kernel) (fun _ _ _ h => h) (Or.inr ⟨by rfl, rfl⟩) hS2 ?_
      simp only [Act.put, List.getElem_toArray, List.getElem_cons_succ, List.getElem_cons_zero, List.setIfInBounds_toArray, List.set_cons_succ, List.set_cons_zero]
      refine wpAnyL_take (i := 15) (f0 := 26) (v := undef) rfl (by decide +kernel) (by decide +kernel) (by decide +kernel) (by decide +kernel) (by decide +kernel) (fun _ _ _ h => h) (Or.inr ⟨by rfl, rfl⟩) hS2 ?_
      simp only [Act.put, List.getElem_toArray, List.getElem_cons_succ, List.getElem_cons_zero, List.setIfInBounds_toArray, List.set_cons_succ, List.set_cons_zero]
      refine wpAnyL_take (i := 16) (f0 := 26) (v := undef) rfl (by decide +kernel) (by decide +kernel) (by decide +kernel) (by decide +kernel) (by decide +kernel) (fun _ _ _ h => h) (Or.inr ⟨by rfl, rfl⟩) hS2 ?_
      simp only [Act.put, List.getElem_toArray, List.getElem_cons_succ, List.getElem_cons_zero, List.setIfInBounds_toArray, List.set_cons_succ, List.set_cons_zero]
      refine wpAnyL_take (i := 17) (f0 := 26) (v := undef) rfl (by decide +kernel) (by decide +kernel) (by decide +kernel) (by decide +kernel) (by decide +kernel) (fun _ _ _ h => h) (Or.inr ⟨by rfl, rfl⟩) hS2 ?_
      simp only [Act.put, List.getElem_toArray, List.getElem_cons_succ, List.getElem_cons_zero, List.setIfInBounds_toArray, List.set_cons_succ, List.set_cons_zero]
      refine wpAnyL_take (i := 18) (f0 := 26) (v := undef) rfl (by decide +kernel) (by decide +kernel) (by decide +kernel) (by decide +kernel) (by decide +kernel) (fun _ _ _ h => h) (Or.inr ⟨by rfl, rfl⟩) hS2 ?_
      simp only [Act.put, List.getElem_toArray, List.getElem_cons_succ, List.getElem_cons_zero, List.setIfInBounds_toArray, List.set_cons_succ, List.set_cons_zero]
      refine wpAnyL_take (i := 19) (f0 := 26) (v := undef) rfl (by decide +kernel) (by decide +kernel) (by decide +kernel) (by decide +kernel) (by decide +kernel) (fun _ _ _ h => h) (Or.inr ⟨by rfl, rfl⟩) hS2 ?_
      simp only [Act.put, List.getElem_toArray, List.getElem_cons_succ, List.getElem_cons_zero, List.setIfInBounds_toArray, List.set_cons_succ, List.set_cons_zero]
      refine wpAnyL_take (i := 20) (f0 := 26) (v := undef) rfl (by decide +kernel) (by decide +kernel) (by decide +kernel) (by decide +kernel) (by decide +kernel) (fun _ _ _ h => h) (Or.inr ⟨by rfl, rfl⟩) hS2 ?_
      simp only [Act.put, List.getElem_toArray, List.getElem_cons_succ, List.getElem_cons_zero, List.setIfInBounds_toArray, List.set_cons_succ, List.set_cons_zero]
      refine wpAnyL_take (i := 21) (f0 := 26) (v := undef) rfl (by decide +kernel) (by decide +kernel) (by decide +kernel) (by decide +kernel) (by decide +kernel) (fun _ _ _ h => h) (Or.inr ⟨by rfl, rfl⟩) hS2 ?_
      simp only [Act.put, List.getElem_toArray, List.getElem_cons_succ, List.getElem_cons_zero, List.setIfInBounds_toArray, List.set_cons_succ, List.set_cons_zero]
      refine wpAnyL_take (i := 22) (f0 := 26) (v := ?_) rfl (by decide +kernel) (by decide +kernel) (by decide +kernel) (by decide +kernel) (by decide +kernel) (fun _ _ _ h => h) (Or.inl ⟨by rfl, ?_⟩) hS2 ?_
      rotate_left
      · intro wS hS; go_simp; (try with_reducible rfl)
      simp only [Act.put, List.getElem_toArray, List.getElem_cons_succ, List.getElem_cons_zero, List.setIfInBounds_toArray, List.set_cons_succ, List.set_cons_zero]
      refine wpAnyL_take (i := 23) (f0 := 26) (v := ?_) rfl (by decide +kernel) (by decide +kernel) (by decide +kernel) (by decide +kernel) (by decide +kernel) (fun _ _ _ h => h) (Or.inl ⟨by rfl, ?_⟩) hS2 ?_
      rotate_left
      · intro wS hS; go_simp; (try with_reducible rfl)
      simp only [Act.put, List.getElem_toArray, List.getElem_cons_succ, List.getElem_cons_zero, List.setIfInBounds_toArray, List.set_cons_succ, List.set_cons_zero]
      refine wpAnyL_done (by decide +kernel) ?_ _
      refine NoPanic.normal ?_
      go_wp2
      go_ret
      exact ⟨ret_bool E9.out, hb2⟩
end Go.Proofs.YtobhpeockinnjaaGreatDoor
/- Was of package proof. No conditions but those that each theorem states. -/
namespace Go.Proofs.YtobhpeockinnjaaGreatDoor
open Go Go.RowKit Go.Sort Go.Maps
def wasE (l : List Dy) (day : Int) (p : Pf) : Int := match foundD l day with
  | none => 11
  | some (c, r) => if c = p.count ∧ checkP r p = true then 0 else 21
theorem pwas_nil (day : Int) (p : Pf) (A : Option Addr) (m c : Nat) (w : World) :
    Calls Tryz.prog 26 #[.pointer none, .int .i64 day, .agg #[.int .i64 p.count, .int .i64 p.idx, .int .i64 p.it.kind, .string p.it.id, .string p.it.parent, .string p.it.number, .string p.it.north, .string p.it.south, .bool p.it.gone, .slice A m c]] w fun e w' => e = .returned (.int .i64 1) ∧ Below w.heap.size w w' := by
  have hx1 := Below.news (Below.refl w.heap.size w) (.cells #[.int .i64 p.count, .int .i64 p.idx, .int .i64 p.it.kind, .string p.it.id, .string p.it.parent, .string p.it.number, .string p.it.north, .string p.it.south, .bool p.it.gone, .slice A m c] 29)
  go_enter Tryz.func26, Tryz.ntmps26
  go_wp2
  go_ret
  exact ⟨rfl, hx1⟩
set_option maxRecDepth 100000 in
set_option maxHeartbeats 16000000 in
theorem pwas_of (br mb : Nat) (key : ByteArray) (l : List Dy) (day : Int) (d0 : -9223372036854775808 ≤ day) (d1 : day ≤ 9223372036854775807) (p : Pf) (A : Option Addr) (m c : Nat) (hm : p.path.length = m) (hm2 : m ≤ 1048576) (hps : ∀ s ∈ p.path, s.size ≤ 1048576) (hz : ∀ s ∈ leafS p.it, s.size ≤ 10000)
    (w : World) (he : Env w) (hS : Strs w w.heap.size A p.path) (hR : Rd br mb key l w) (E : Int) (hE : wasE l day p = E) :
    Calls Tryz.prog 26 #[.pointer (some ⟨br, 0, none⟩), .int .i64 day, .agg #[.int .i64 p.count, .int .i64 p.idx, .int .i64 p.it.kind, .string p.it.id, .string p.it.parent, .string p.it.number, .string p.it.north, .string p.it.south, .bool p.it.gone, .slice A m c]] w fun e w' => e = .returned (.int .i64 E) ∧ Below w.heap.size w w' := by
  have hx1 := Below.news (Below.refl w.heap.size w) (.cells #[.int .i64 p.count, .int .i64 p.idx, .int .i64 p.it.kind, .string p.it.id, .string p.it.parent, .string p.it.number, .string p.it.north, .string p.it.south, .bool p.it.gone, .slice A m c] 29)
  have hr1 := heap_alloc_new w (.cells #[.int .i64 p.count, .int .i64 p.idx, .int .i64 p.it.kind, .string p.it.id, .string p.it.parent, .string p.it.number, .string p.it.north, .string p.it.south, .bool p.it.gone, .slice A m c] 29)
  have hP1 := keepS hS hx1
  have hR1 := hR.below hx1
  have he1 := he.next hx1
  have HM := hide hm; have HPS := hide hps; have HZ := hide hz; have HE := hide hE
  clear hm hps hz hE hS hR he
  obtain ⟨hlk1, hlk2⟩ := days_look hR1.map day d0 d1
  obtain ⟨q0, q1⟩ := jCells2' hR1.row
  go_enter Tryz.func26, Tryz.ntmps26
  cases hf : foundD l day with
  | none =>
    have hrun := hlk2 hf
    have E9 := hide (show (11 : Int) = E by rw [← HE.out]; unfold wasE; rw [hf])
    have hx2 := hide (Below.news (Below.refl (w.alloc (.cells #[.int .i64 p.count, .int .i64 p.idx, .int .i64 p.it.kind, .string p.it.id, .string p.it.parent, .string p.it.number, .string p.it.north, .string p.it.south, .bool p.it.gone, .slice A m c] 29)).heap.size (w.alloc (.cells #[.int .i64 p.count, .int .i64 p.idx, .int .i64 p.it.kind, .string p.it.id, .string p.it.parent, .string p.it.number, .string p.it.north, .string p.it.south, .bool p.it.gone, .slice A m c] 29))) (.cells #[.int .i64 0, .string ⟨#[]⟩] 94))
    clear hlk1 hlk2 hf
    go_wp2
    go_ret
    exact ⟨ret_err E9.out, bnext hx1 hx2.out⟩
  | some q =>
    obtain ⟨cc, rr⟩ := q
    have hrun := hlk1 cc rr hf
    have hx2 := Below.news (Below.refl (w.alloc (.cells #[.int .i64 p.count, .int .i64 p.idx, .int .i64 p.it.kind, .string p.it.id, .string p.it.parent, .string p.it.number, .string p.it.north, .string p.it.south, .bool p.it.gone, .slice A m c] 29)).heap.size (w.alloc (.cells #[.int .i64 p.count, .int .i64 p.idx, .int .i64 p.it.kind, .string p.it.id, .string p.it.parent, .string p.it.number, .string p.it.north, .string p.it.south, .bool p.it.gone, .slice A m c] 29))) (.cells #[.int .i64 cc, .string rr] 94)
    have hr2 := heap_alloc_new (w.alloc (.cells #[.int .i64 p.count, .int .i64 p.idx, .int .i64 p.it.kind, .string p.it.id, .string p.it.parent, .string p.it.number, .string p.it.north, .string p.it.south, .bool p.it.gone, .slice A m c] 29)) (.cells #[.int .i64 cc, .string rr] 94)
    have hs1 : (w.alloc (.cells #[.int .i64 p.count, .int .i64 p.idx, .int .i64 p.it.kind, .string p.it.id, .string p.it.parent, .string p.it.number, .string p.it.north, .string p.it.south, .bool p.it.gone, .slice A m c] 29)).heap.size = w.heap.size + 1 := by simp
    rw [hs1] at hr2
    clear hlk1 hlk2 hs1
    go_upto_region 4 with (fail)
    have hr1' := iNext hr1 hx2
    have hP2 := keepS hP1 hx2
    have he2 := he1.next hx2
    have hb2 := bnext hx1 hx2
    clear hr1 hP1 he1 hx1 hx2 hrun q0 q1 hR1
    generalize (w.alloc (.cells #[.int .i64 p.count, .int .i64 p.idx, .int .i64 p.it.kind, .string p.it.id, .string p.it.parent, .string p.it.number, .string p.it.north, .string p.it.south, .bool p.it.gone, .slice A m c] 29)).alloc (.cells #[.int .i64 cc, .string rr] 94) = w2 at *
    obtain ⟨y0, y1⟩ := jCells2' hr2
    obtain ⟨z0, z1, z2, z3, z4, z5, z6, z7, z8, z9⟩ := jCells10 hr1'
    by_cases hcc : cc = p.count
    · have hbb : (cc == p.count) = true := beq_iff_eq.2 hcc
      have hbn : (cc != p.count) = false := by rw [bne, hbb]; rfl
      obtain ⟨V, hV⟩ : ∃ V, checkP rr p = V := ⟨_, rfl⟩
      have E9 := hide (show (if V = true then 0 else 21 : Int) = E by
        rw [← HE.out]; unfold wasE; rw [hf]; simp only [hcc, true_and, hV])
      clear hf hcc
      go_wp2_with fail
      refine (pcheck_of rr p A m c HM.out hm2 HPS.out HZ.out w2 he2 hP2 V hV).mono ?_
      rintro e w3 ⟨rfl, hx3⟩
      have hb3 := bnext hb2 hx3
      clear hV hx3 hP2 he2 y0 y1 z0 z1 z2 z3 z4 z5 z6 z7 z8 z9 hr1' hr2
      cases V with
      | true =>
        go_wp2
        go_ret
        exact ⟨ret_err E9.out, hb3⟩
      | false =>
        go_wp2
        go_ret
        exact ⟨ret_err E9.out, hb3⟩
    · have hbb : (cc == p.count) = false := beq_eq_false_iff_ne.2 hcc
      have hbn : (cc != p.count) = true := by rw [bne, hbb]; rfl
      have E9 := hide (show (21 : Int) = E by
        rw [← HE.out]; unfold wasE; rw [hf]; exact (if_neg (fun h => hcc h.1)).symm)
      clear hf hcc
      go_wp2
      go_ret
      exact ⟨ret_err E9.out, hb2⟩
end Go.Proofs.YtobhpeockinnjaaGreatDoor
/- Find and In of the reference. No conditions but those that each theorem states. -/
namespace Go.Proofs.YtobhpeockinnjaaGreatDoor
open Go Go.RowKit Go.Sort Go.Maps
set_option maxRecDepth 100000 in
set_option maxHeartbeats 8000000 in
theorem rfind_of (l : List Dg.It) (A : Option Addr) (n c : Nat) (hl : l.length = n) (hn : n ≤ 9223372036854775807) (id : ByteArray) (w : World) (hI : Its w w.heap.size A l) (K0 : Int) (hK0 : findX l id = K0) :
    Calls Tryz.prog 83 #[.agg #[.slice A n c], .string id] w fun e w' => e = .returned (.int .i64 K0) ∧ Below w.heap.size w w' := by
  have hx1 := Below.news (Below.refl w.heap.size w) (.cells #[.slice A n c] 24)
  have hrow := heap_alloc_new w (.cells #[.slice A n c] 24)
  have hI1 := hI.keep hx1
  have HL := hide hl; have HK := hide hK0
  clear hl hK0 hI
  go_enter Tryz.func83, Tryz.ntmps83
  go_wp2
  generalize w.alloc (.cells #[.slice A n c] 24) = w1 at *
  have hc := iCells0 hrow
  go_loop [5] (fun iv => ∃ k : Nat, k ≤ n ∧ iv = .int .i64 (k : Int) ∧ Hid (∀ x ∈ l.take k, x.id ≠ id)) (fun iv => n - (intOf iv).toNat)
  case atStart => exact ⟨0, by omega, rfl, fun x hx => by simp at hx⟩
  case round =>
    obtain ⟨k, hk, rfl, hall⟩ := hrel
    by_cases hlt : k < n
    · have hkn : (k : Int) < (n : Int) := by omega
      have hk0 : (0 : Int) ≤ (k : Int) := by omega
      have hkl : k < l.length := by rw [HL.out]; exact hlt
      obtain ⟨b, off, rfl⟩ := hI1.some hkl
      obtain ⟨x, hx⟩ : ∃ x, l[k] = x := ⟨_, rfl⟩
      obtain ⟨_, p0, p1, p2, p3, p4, p5, p6⟩ := hI1.cells hkl x hx
      have HX := hide hx
      clear hx p0 p2 p3 p4 p5 p6
      by_cases he : x.id = id
      · have hb := bs_yes he
        have E9 := hide (show (k : Int) = K0 by rw [← HK.out]; exact (findX_at hkl (by rw [HX.out]; exact he) hall.out).symm)
        clear he
        go_wp2
        go_ret
        exact ⟨ret_intV E9.out, hx1⟩
      · have hb := bs_no he
        have HE := hide he
        clear he
        go_wp2
        go_round
        case rel => exact ⟨k + 1, by omega, by go_num, fun y hy => by
          rw [List.take_succ_eq_append_getElem hkl, HX.out] at hy
          rcases List.mem_append.1 hy with h | h
          · exact hall.out y h
          · rw [List.mem_singleton.1 h]; exact HE.out⟩
        case measure => simp [intOf]; omega
    · obtain rfl : k = n := by omega
      have E9 := hide (show (-1 : Int) = K0 by rw [← HK.out]; exact (findX_none (by have h := hall.out; rw [← HL.out, List.take_length] at h; exact h)).symm)
      go_wp2
      go_ret
      exact ⟨ret_intV E9.out, hx1⟩
set_option maxHeartbeats 4000000 in
theorem rin_of (l : List ByteArray) (A : Option Addr) (n c : Nat) (hl : l.length = n) (hn : n ≤ 9223372036854775807) (s : ByteArray) (w : World) (hS : Strs w w.heap.size A l) (R : Bool) (hR : Dg.inB l s = R) :
    Calls Tryz.prog 120 #[.slice A n c, .string s] w fun e w' => e = .returned (.bool R) ∧ w' = w := by
  have HL := hide hl; have HR := hide hR
  clear hl hR
  go_enter Tryz.func120, Tryz.ntmps120
  go_wp2
  go_loop [5] (fun iv => ∃ k : Nat, k ≤ n ∧ iv = .int .i64 (k : Int) ∧ Hid (∀ x ∈ l.take k, x ≠ s)) (fun iv => n - (intOf iv).toNat)
  case atStart => exact ⟨0, by omega, rfl, fun x hx => by simp at hx⟩
  case round =>
    obtain ⟨k, hk, rfl, hall⟩ := hrel
    by_cases hlt : k < n
    · have hkn : (k : Int) < (n : Int) := by omega
      have hk0 : (0 : Int) ≤ (k : Int) := by omega
      have hkl : k < l.length := by rw [HL.out]; exact hlt
      obtain ⟨b, off, rfl, _, hc⟩ := hS.get hkl
      obtain ⟨x, hx⟩ : ∃ x, l[k] = x := ⟨_, rfl⟩
      rw [hx] at hc
      have HX := hide hx
      clear hx
      by_cases he : x = s
      · have hb := bs_yes he
        have E9 := hide (show true = R by rw [← HR.out]; exact ((Dg.inB_iff l s).2 (by rw [← he, ← HX.out]; exact List.getElem_mem hkl)).symm)
        clear he
        go_wp2
        go_ret
        exact ⟨ret_bool E9.out, rfl⟩
      · have hb := bs_no he
        have HE := hide he
        clear he
        go_wp2
        go_round
        case rel => exact ⟨k + 1, by omega, by go_num, fun y hy => by
          rw [List.take_succ_eq_append_getElem hkl, HX.out] at hy
          rcases List.mem_append.1 hy with h | h
          · exact hall.out y h
          · rw [List.mem_singleton.1 h]; exact HE.out⟩
        case measure => simp [intOf]; omega
    · obtain rfl : k = n := by omega
      have E9 := hide (show false = R by rw [← HR.out]; exact ((Dg.inB_no l s).2 (fun hm => by have h := hall.out; rw [← HL.out, List.take_length] at h; exact h s hm rfl)).symm)
      go_wp2
      go_ret
      exact ⟨ret_bool E9.out, rfl⟩
end Go.Proofs.YtobhpeockinnjaaGreatDoor
/- Validity as the reference has it: ancestors by going up; it is the walk's. In plain Lean, no program in sight. -/
namespace Go.Proofs.YtobhpeockinnjaaGreatDoor.Dg
open Go
/-- What is open: each open division is an item that came, whose ancestors are those open before it. -/
def StackOk (l : List It) (vs : List (List ByteArray)) (k : Nat) (op : List ByteArray) : Prop :=
  ∀ (t : Nat) (d : ByteArray), op[t]? = some d → ∃ (j : Nat) (x : It), j < k ∧ l[j]? = some x ∧ x.id = d ∧ x.kind = 1 ∧ vs[j]? = some (op.take t)
theorem stack_take {l : List It} {vs : List (List ByteArray)} {k : Nat} {op : List ByteArray} (h : StackOk l vs k op) (n : Nat) : StackOk l vs k (op.take n) := fun t d ht => by
  have htn : t < n := by
    have := (List.getElem?_eq_some_iff.1 ht).1
    rw [List.length_take] at this
    omega
  rw [List.getElem?_take_of_lt htn] at ht
  obtain ⟨j, x, h1, h2, h3, h4, h5⟩ := h t d ht
  exact ⟨j, x, h1, h2, h3, h4, by rw [List.take_take, Nat.min_eq_left (by omega)]; exact h5⟩
theorem stack_more {l : List It} {vs vs' : List (List ByteArray)} {k : Nat} {op : List ByteArray} (h : StackOk l vs k op) (hv : ∀ j, j < k → vs'[j]? = vs[j]?) : StackOk l vs' (k + 1) op := fun t d ht => by
  obtain ⟨j, x, h1, h2, h3, h4, h5⟩ := h t d ht
  exact ⟨j, x, by omega, h2, h3, h4, by rw [hv j h1]; exact h5⟩
theorem walk_stack {l : List It} : ∀ {k : Nat} (_ : k ≤ l.length) {vs : List (List ByteArray)} {s : Wk}, walkTo l k = some (vs, s) → StackOk l vs k s.op ∧ ∀ j o, vs[j]? = some o → StackOk l vs j o
  | 0, _, vs, s, h => by cases h; exact ⟨fun t d ht => by simp at ht, fun j o ho => by simp at ho⟩
  | k + 1, hk, vs, s, h => by
    have hk' : k < l.length := by omega
    obtain ⟨vs0, s0, o, h1, h2, rfl⟩ := walk_step hk' h
    obtain ⟨a1, a2⟩ := walk_stack (by omega) h1
    have hl := walk_len (by omega) h1
    obtain ⟨_, _, k', _, b4, _, b6⟩ := stepI_some h2
    have hv : ∀ j, j < k → (vs0 ++ [o])[j]? = vs0[j]? := fun j hj => List.getElem?_append_left (by omega)
    have ho : StackOk l (vs0 ++ [o]) (k + 1) o := by rw [b4]; exact stack_more (stack_take a1 k') (fun j hj => by rw [← b4]; exact hv j hj)
    refine ⟨?_, fun j o' ho' => ?_⟩
    · rw [b6]
      split
      · rename_i hkind
        intro t d ht
        rcases Nat.lt_or_ge t o.length with h3 | h3
        · rw [List.getElem?_append_left h3] at ht
          obtain ⟨j, x, c1, c2, c3, c4, c5⟩ := ho t d ht
          exact ⟨j, x, c1, c2, c3, c4, by rw [List.take_append_of_le_length (by omega)]; exact c5⟩
        · have h4 : t = o.length := by
            have := (List.getElem?_eq_some_iff.1 ht).1
            rw [List.length_append, List.length_singleton] at this
            omega
          subst h4
          rw [List.getElem?_append_right (Nat.le_refl _), Nat.sub_self] at ht
          obtain rfl : l[k].id = d := by simpa using ht
          refine ⟨k, l[k], by omega, List.getElem?_eq_getElem hk', rfl, hkind, ?_⟩
          rw [List.getElem?_append_right (by omega), hl, Nat.sub_self, List.take_left]
          rfl
      · exact ho
    · rcases Nat.lt_or_ge j k with h3 | h3
      · rw [List.getElem?_append_left (by omega)] at ho'
        have h5 := a2 j o' ho'
        intro t d ht
        obtain ⟨i, x, c1, c2, c3, c4, c5⟩ := h5 t d ht
        exact ⟨i, x, c1, c2, c3, c4, by rw [hv i (by omega)]; exact c5⟩
      · have h4 : j = k := by
          have := (List.getElem?_eq_some_iff.1 ho').1
          rw [List.length_append, List.length_singleton] at this
          omega
        subst h4
        rw [List.getElem?_append_right (by omega), hl, Nat.sub_self] at ho'
        obtain rfl : o = o' := by simpa using ho'
        rw [b4]
        intro t d ht
        obtain ⟨i, x, c1, c2, c3, c4, c5⟩ := stack_take a1 k' t d ht
        exact ⟨i, x, c1, c2, c3, c4, by rw [← b4, hv i c1]; rw [← b4] at c5; exact c5⟩
/-- The parent's ancestors and the parent: what is open at a visit. -/
theorem visit_up {l : List It} {n : Nat} (hn : n ≤ l.length) {vs : List (List ByteArray)} {s : Wk} (h : walkTo l n = some (vs, s)) {k : Nat} (hk : k < n) : (l[k].parent = nil8 ∧ vs[k]? = some []) ∨ (l[k].parent ≠ nil8 ∧ ∃ (j : Nat) (x : It) (o : List ByteArray), j < k ∧ l[j]? = some x ∧ x.id = l[k].parent ∧ x.kind = 1 ∧ vs[j]? = some o ∧ vs[k]? = some (o ++ [l[k].parent])) := by
  obtain ⟨s1, h1⟩ := walk_le hn h (k + 1) (by omega)
  obtain ⟨vs0, s0, o0, w0, st0, e0⟩ := walk_step (l := l) (k := k) (by omega) h1
  have l0 := walk_len (by omega) w0
  have a0 : (vs.take (k + 1))[k]? = some o0 := by rw [e0, List.getElem?_append_right (by omega), l0]; simp
  rw [List.getElem?_take_of_lt (by omega)] at a0
  obtain ⟨hs, _⟩ := walk_stack (by omega) w0
  obtain ⟨_, _, j, c2, c3, _, _⟩ := stepI_some st0
  unfold kOf at c2
  by_cases hp : l[k].parent = nil8
  · rw [if_pos hp] at c2
    injection c2 with c2
    refine Or.inl ⟨hp, ?_⟩
    rw [a0, c3, ← c2]; rfl
  · rw [if_neg hp] at c2
    split at c2
    · rename_i hin
      injection c2 with c2
      have hf : (s0.op.findIdx fun d => decide (d = l[k].parent)) < s0.op.length := List.findIdx_lt_length_of_exists ⟨_, (inB_iff _ _).1 hin, decide_eq_true rfl⟩
      have hg2 := of_decide_eq_true (List.findIdx_getElem (w := hf))
      generalize (s0.op.findIdx fun d => decide (d = l[k].parent)) = t at *
      obtain ⟨i, x, d1, d2, d3, d4, d5⟩ := hs t l[k].parent (by rw [List.getElem?_eq_getElem hf, hg2])
      refine Or.inr ⟨hp, i, x, s0.op.take t, d1, d2, d3, d4, ?_, ?_⟩
      · have : (vs.take (k + 1))[i]? = some (s0.op.take t) := by rw [e0, List.getElem?_append_left (by omega)]; exact d5
        rw [List.getElem?_take_of_lt (by omega)] at this
        exact this
      · rw [a0, c3, ← c2, List.take_succ_eq_append_getElem hf, hg2]
    · cases c2
/-- The item with a name. -/
def findI (l : List It) (d : ByteArray) : Option It := l.find? fun x => decide (x.id = d)
/-- Going up from a name, the nearest one first. -/
def chainR (l : List It) : Nat → ByteArray → List ByteArray
  | 0, _ => []
  | f + 1, d => if d = nil8 then [] else d :: (match findI l d with | none => [] | some x => chainR l f x.parent)
theorem find_at {l : List It} {n : Nat} (hn : n ≤ l.length) {vs : List (List ByteArray)} {s : Wk} (h : walkTo l n = some (vs, s)) {k : Nat} (hk : k < n) : findI l l[k].id = some l[k] := by
  obtain ⟨_, _, _, h2, _⟩ := visit_at hn h hk
  unfold findI
  have hsp : l = l.take k ++ l[k] :: l.drop (k + 1) := by
    rw [← List.drop_eq_getElem_cons (by omega), List.take_append_drop]
  conv => lhs; arg 2; rw [hsp]
  rw [List.find?_append]
  have hnone : (l.take k).find? (fun x => decide (x.id = l[k].id)) = none := by
    rw [List.find?_eq_none]
    intro x hx hd
    exact h2 (List.mem_map.2 ⟨x, hx, of_decide_eq_true hd⟩)
  rw [hnone, List.find?_cons_of_pos (by simp)]
  rfl
/-- Going up finds what is open. -/
theorem chain_eq {l : List It} {n : Nat} (hn : n ≤ l.length) {vs : List (List ByteArray)} {s : Wk} (h : walkTo l n = some (vs, s)) : ∀ (k : Nat) (_ : k < n) (f : Nat), k < f → ∀ o, vs[k]? = some o → chainR l f l[k].parent = o.reverse := by
  intro k
  induction k using Nat.strongRecOn with
  | _ k ih =>
    intro hk f hf o ho
    obtain ⟨f, rfl⟩ : ∃ g, f = g + 1 := ⟨f - 1, by omega⟩
    rcases visit_up hn h hk with ⟨hp, hv⟩ | ⟨hp, j, x, o1, hj, hx, hid, _, hv1, hv⟩
    · rw [ho] at hv
      injection hv with hv
      rw [chainR, if_pos hp, hv]; rfl
    · rw [ho] at hv
      injection hv with hv
      obtain ⟨hjl, hx2⟩ := List.getElem?_eq_some_iff.1 hx
      have hfi := find_at hn h (k := j) (by omega)
      rw [hx2, hid] at hfi
      have := ih j hj (by omega) f (by omega) o1 hv1
      rw [hx2] at this
      rw [chainR, if_neg hp, hfi, hv, List.reverse_append]
      simp only
      rw [this]
      rfl
end Go.Proofs.YtobhpeockinnjaaGreatDoor.Dg

