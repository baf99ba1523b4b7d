/- Slices of strings that the call itself made: appended to, reversed, read. -/
import Derived.Test.YtmmpndijfbbnnaaDoorRoot
import Derived.Test.YtmmpndijfbbnnaaDoorApp
namespace Go.Proofs.YtmmpndijfbbnnaaDoor
open Go Go.RowKit Go.Sort
theorem below_setC {B : Nat} {a : World} (b : Nat) (hb : B ≤ b) : ∀ (vs : List Value) (o : Nat) {w : World}, Below B a w → Below B a (w.setCells b o vs)
  | [], _, _, h => h
  | v :: r, o, _, h => below_setC b hb r (o + 1) (h.setCell (p := ⟨b, o, none⟩) hb v)
def OwnS (w : World) (B : Nat) (v : Value) (l : List ByteArray) : Prop := OwnV w B 9 v (l.map .string)
theorem OwnS.nil (w : World) (B : Nat) : OwnS w B (.slice none 0 0) [] := OwnV.nil _ _ _
theorem OwnS.below {w w' : World} {B : Nat} {v : Value} {l : List ByteArray} (h : OwnS w B v l) (hb : Below w.heap.size w w') : OwnS w' B v l := OwnV.below h hb
theorem OwnS.cases {w : World} {B : Nat} {v : Value} {l : List ByteArray} (h : OwnS w B v l) : (v = .slice none 0 0 ∧ l = []) ∨
    ∃ g cap, v = .slice (some ⟨g, 0, none⟩) l.length cap ∧ B ≤ g ∧ g < w.heap.size ∧ l.length ≤ cap ∧ (∀ j (s : ByteArray), l[j]? = some s → w.cell? ⟨g, j, none⟩ = some (.string s)) ∧ (∀ j, w.frozen? ⟨g, j, none⟩ = false) := by
  obtain ⟨hl, h⟩ := h
  rw [List.length_map] at h hl
  rcases h with ⟨rfl, h0⟩ | ⟨g, cap, cur, rfl, hB, hg, hc, _, hsz, hx⟩
  · exact Or.inl ⟨rfl, List.length_eq_zero_iff.1 h0⟩
  · refine Or.inr ⟨g, cap, rfl, hB, lt_of_block hg, hc, fun j s hj => ?_, fun j => frozen_of_row _ _ _ _ _ hg⟩
    rw [cell_of_row _ _ _ _ _ (0, 0) hg, ← Array.getElem?_toList]
    have h1 : (cur.toList.take (l.length * 1))[j]? = some (.string s) := by rw [hx, List.getElem?_map, hj]; rfl
    rw [List.getElem?_take] at h1
    split at h1
    · exact h1
    · exact absurd h1 (by simp)
theorem OwnS.strs {w : World} {B : Nat} {v : Value} {l : List ByteArray} (h : OwnS w B v l) : ∃ A c, v = .slice A l.length c ∧ l.length ≤ c ∧ Strs w w.heap.size A l := by
  rcases h.cases with ⟨rfl, rfl⟩ | ⟨g, cap, rfl, _, hg, hc, hcell, _⟩
  · exact ⟨none, 0, rfl, by simp, Strs.nil _ _ _⟩
  · exact ⟨_, cap, rfl, hc, ⟨fun _ => ⟨g, 0, rfl, hg, fun j s hj => by rw [Nat.zero_add]; exact hcell j s hj⟩⟩⟩
theorem strsOf_getD (l : List ByteArray) : (Lib.strsOf (fun i => l.getD i ByteArray.empty) l.length).reverse.map encStr = l.reverse.map Value.string := by
  rw [List.map_reverse, List.map_reverse]
  refine congrArg List.reverse ?_
  unfold Lib.strsOf
  rw [List.map_map]
  apply List.ext_getElem?
  intro j
  rw [List.getElem?_map, List.getElem?_map]
  by_cases hj : j < l.length
  · rw [List.getElem?_range hj, List.getElem?_eq_getElem hj]
    show some (Value.string ⟨((l.getD j ByteArray.empty).data.toList).toArray⟩) = some (Value.string l[j])
    rw [List.getD_eq_getElem?_getD, List.getElem?_eq_getElem hj]
    rfl
  · rw [List.getElem?_eq_none (by rw [List.length_range]; omega), List.getElem?_eq_none (by omega)]
    rfl
theorem reverse_any (B : Nat) (v : Value) (l : List ByteArray) (w : World) (h : OwnS w B v l) (hB : B ≤ w.heap.size) (hl : l.length ≤ 1099511627776) :
    Calls Tryd.prog 46 #[v] w fun e w' => e = .returned (.tuple #[]) ∧ (∃ A c, v = .slice A l.length c ∧ l.length ≤ c ∧ Strs w' w'.heap.size A l.reverse) ∧ Below B w w' := by
  rcases h.cases with ⟨rfl, rfl⟩ | ⟨g, cap, rfl, hBg, hg, hc, hcell, hfr⟩
  · refine (Tryd.slices_Reverse_string_empty none 0 w).mono ?_
    rintro e w' ⟨rfl, rfl⟩
    exact ⟨rfl, ⟨none, 0, rfl, by simp, Strs.nil _ _ _⟩, Below.refl _ _⟩
  · have hcc : ∀ i, i < l.length → w.cell? ⟨g, 0 + i, none⟩ = some (.string (l.getD i ByteArray.empty)) := fun i hi => by
      rw [Nat.zero_add, hcell i l[i] (List.getElem?_eq_getElem hi), List.getD_eq_getElem?_getD, List.getElem?_eq_getElem hi]; rfl
    refine (Tryd.slices_Reverse_string_cells g 0 l.length cap (fun i => l.getD i ByteArray.empty) w (by omega) hcc (fun j _ => hfr _)).mono ?_
    rintro e w' ⟨rfl, q, rfl⟩
    rw [strsOf_getD]
    have hsz : ((w.drewN q).setCells g 0 (l.reverse.map Value.string)).heap.size ≥ w.heap.size := (below_setC (B := B) g hBg _ 0 (below_drewN (Below.refl B w) q)).size
    refine ⟨rfl, ⟨_, cap, rfl, hc, ⟨fun _ => ⟨g, 0, rfl, by omega, fun j s hj => ?_⟩⟩⟩, below_setC g hBg _ 0 (below_drewN (Below.refl B w) q)⟩
    have hj' : j < (l.reverse.map Value.string).length := by
      rw [List.length_map]; exact (List.getElem?_eq_some_iff.1 hj).1
    rw [World.cell?_setCells_in g _ 0 (w.drewN q) (fun i hi => by
      have hi' : i < l.length := by simpa using hi
      show (w.cell? _).isSome = true
      rw [hcc i hi']; rfl) j hj']
    have h2 : (l.reverse.map Value.string)[j]? = some (.string s) := by rw [List.getElem?_map, hj]; rfl
    rw [List.getElem?_eq_getElem hj'] at h2
    exact h2
/-- One string, laid by a literal slice of one element, onto strings of the call's own. -/
theorem step_s (w0 : World) {ops : Array Oper} {rest : List Oper} {o : Oper} {a : Act} {Q : Exit → Act → World → Prop} (hgd : o.guard = none) (sl x : Operand)
    (ho : o.op = .call { callee := .builtin .append, args := #[sl, x], argTypes := #[22, 22] })
    (s : ByteArray) (B : Nat) (v : Value) (l : List ByteArray) (hs : a.eval sl = v) (hown : OwnS w0 B v l) (hx : a.eval x = .slice (some ⟨w0.heap.size, 0, none⟩) 1 1)
    (hlen : l.length < 1099511627776) (hB : B ≤ w0.heap.size)
    (h : ∀ v' w', OwnS w' B v' (l ++ [s]) → Below B w0 w' → wpList Tryd.prog ops Q rest (a.put o.dst v') w') : wpList Tryd.prog ops Q (o :: rest) a (w0.alloc (.cells #[.string s] 9)) := by
  refine step_one _ hgd sl x 22 9 _ _ ho Tryd.underlying22 strInfo rfl B v _ hs (OwnV.alloc hown _) ⟨w0.heap.size, 0, none⟩ 1 (.string s) hx (by rw [cell_of_row _ _ 0 _ _ (0, 0) (heap_alloc_new _ _)]; rfl) rfl (by rw [List.length_map]; exact hlen) (by omega) (by simp; omega) fun v' w' h1 h2 => h v' w' ?_ ?_
  · unfold OwnS
    rw [List.map_append]
    exact h1
  · exact ((Below.refl _ _).alloc hB _).trans h2
end Go.Proofs.YtmmpndijfbbnnaaDoor
