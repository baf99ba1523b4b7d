/- Appends to slices that the call itself made: bytes and one-cell elements. No conditions. -/
import Derived.Test.YtmmpndijfbbnnaaDoorEnv
import Derived.Lib.AppendStr
namespace Go.Proofs.YtmmpndijfbbnnaaDoor
open Go Go.RowKit
/-- A byte slice of the call's own that holds the bytes l. -/
def OwnB (w : World) (B : Nat) (v : Value) (l : List UInt8) : Prop := w.ownsRow B 5 1 v l.length (Lib.byteCells l)
/-- A slice of the call's own whose elements of type e, one cell each, are xs. -/
def OwnV (w : World) (B : Nat) (e : TypeId) (v : Value) (xs : List Value) : Prop := w.ownsRow B e 1 v xs.length xs
theorem OwnV.nil (w : World) (B : Nat) (e : TypeId) : OwnV w B e (.slice none 0 0) [] := World.ownsRow_nil w B e 1
theorem OwnV.below {w w' : World} {B : Nat} {e : TypeId} {v : Value} {xs : List Value} (h : OwnV w B e v xs) (hb : Below w.heap.size w w') : OwnV w' B e v xs := own_below h hb
theorem OwnB.below {w w' : World} {B : Nat} {v : Value} {l : List UInt8} (h : OwnB w B v l) (hb : Below w.heap.size w w') : OwnB w' B v l := own_below h hb
theorem OwnB.form {w : World} {B : Nat} {v : Value} {l : List UInt8} (h : OwnB w B v l) : ∃ A c, v = .slice A l.length c := by
  rcases h.2 with ⟨rfl, h0⟩ | ⟨g, cap, cur, rfl, _⟩
  · exact ⟨none, 0, by rw [h0]⟩
  · exact ⟨_, _, rfl⟩
theorem OwnV.form {w : World} {B : Nat} {e : TypeId} {v : Value} {xs : List Value} (h : OwnV w B e v xs) : ∃ A c, v = .slice A xs.length c := by
  rcases h.2 with ⟨rfl, h0⟩ | ⟨g, cap, cur, rfl, _⟩
  · exact ⟨none, 0, by rw [h0]⟩
  · exact ⟨_, _, rfl⟩
theorem OwnV.alloc {w : World} {B : Nat} {e : TypeId} {v : Value} {xs : List Value} (h : OwnV w B e v xs) (o : Obj) : OwnV (w.alloc o) B e v xs := World.ownsRow.alloc h o
theorem OwnB.toV {w : World} {B : Nat} {v : Value} {l : List UInt8} (h : OwnB w B v l) : OwnV w B 5 v (Lib.byteCells l) := by
  unfold OwnV
  rw [Lib.byteCells_length]
  exact h
theorem OwnV.toB {w : World} {B : Nat} {v : Value} {l : List UInt8} (h : OwnV w B 5 v (Lib.byteCells l)) : OwnB w B v l := by
  unfold OwnV at h
  rw [Lib.byteCells_length] at h
  exact h
theorem byteInfo : (Tryd.prog.info? 5).map (fun i => (i.zero, i.size, i.bytes)) = some (some (.int .u8 0), 1, 1) := by kernel_rfl
theorem strInfo : (Tryd.prog.info? 9).map (fun i => (i.zero, i.size, i.bytes)) = some (some (.string ⟨#[]⟩), 1, 16) := by kernel_rfl
theorem below_own {w w' : World} {B : Nat} {e : TypeId} {v : Value} {n : Nat} {xs : List Value} (h : w.ownsRow B e 1 v n xs) (hg : w.grownBy w' v.ownBlock) (hB : B ≤ w.heap.size) : Below B w w' :=
  (Below.refl B w).grown hg hB fun k hk => (h.lt k hk).1
theorem step_str (w : World) {ops : Array Oper} {rest : List Oper} {o : Oper} {a : Act} {Q : Exit → Act → World → Prop} (hgd : o.guard = none) (sl x : Operand)
    (ho : o.op = .call { callee := .builtin .append, args := #[sl, x], argTypes := #[91, 9] })
    (B : Nat) (v : Value) (l : List UInt8) (hs : a.eval sl = v) (hown : OwnB w B v l) (s : ByteArray) (hx : a.eval x = .string s)
    (hlen : l.length + s.size ≤ 2199023255552) (hB : B ≤ w.heap.size)
    (h : ∀ v' w', OwnB w' B v' (l ++ Dg.L s) → Below B w w' → wpList Tryd.prog ops Q rest (a.put o.dst v') w') : wpList Tryd.prog ops Q (o :: rest) a w := by
  obtain ⟨i, h1, h2, h3, h4⟩ := info_parts byteInfo
  refine Lib.wpList_append_own_string w hgd sl x _ _ ho B 5 i Tryd.underlying91 Tryd.underlying9 h1 h2 h3 h4 v l.length _ hs hown s hx (by unfold maxLen; omega) (by omega) hB fun v' w' hown' hg _ => h v' w' ?_ (below_own hown hg hB)
  unfold OwnB
  rw [List.length_append, Lib.byteCells_append, Dg.len_L]
  exact hown'
theorem step_one (w : World) {ops : Array Oper} {rest : List Oper} {o : Oper} {a : Act} {Q : Exit → Act → World → Prop} (hgd : o.guard = none) (sl x : Operand) (t e : TypeId) (z : Value) (bytes : Nat)
    (ho : o.op = .call { callee := .builtin .append, args := #[sl, x], argTypes := #[t, t] })
    (ht : Tryd.prog.underlying t = some (.slice e)) (hi : (Tryd.prog.info? e).map (fun i => (i.zero, i.size, i.bytes)) = some (some z, 1, bytes)) (hz : z.cells.size = 1)
    (B : Nat) (v : Value) (xs : List Value) (hs : a.eval sl = v) (hown : OwnV w B e v xs) (ad : Addr) (c : Nat) (u : Value) (hx : a.eval x = .slice (some ad) 1 c) (hu : w.cell? ad = some u) (h1 : u.oneCell' = true)
    (hlen : xs.length < 1099511627776) (hby : bytes ≤ 64) (hB : B ≤ w.heap.size)
    (h : ∀ v' w', OwnV w' B e v' (xs ++ [u]) → Below B w w' → wpList Tryd.prog ops Q rest (a.put o.dst v') w') : wpList Tryd.prog ops Q (o :: rest) a w := by
  obtain ⟨i, h2, h3, h4, h5⟩ := info_parts hi
  refine wpList_append_own w hgd sl x t ho B e i z 1 bytes ht h2 h3 h4 h5 hz (by omega) v xs.length xs hs hown ad 1 c [u] hx rfl ?_ ?_ (by unfold maxLen; omega) ?_ hB fun v' w' hown' hg _ => h v' w' ?_ (below_own hown hg hB)
  · intro j u' hj
    rcases j with _ | j
    · obtain rfl : u = u' := by simpa using hj
      have : ad.add 0 = ad := by unfold Addr.add; simp
      rw [this]; exact hu
    · simp at hj
  · intro u' hu'
    obtain rfl : u' = u := by simpa using hu'
    exact h1
  · have h6 : (xs.length + 1) * bytes ≤ 1099511627776 * 64 := Nat.mul_le_mul (by omega) hby
    omega
  · unfold OwnV
    rw [List.length_append]
    exact hown'
/-- One byte, laid by a literal slice of one element, onto bytes of the call's own. -/
theorem step_byte (w0 : World) {ops : Array Oper} {rest : List Oper} {o : Oper} {a : Act} {Q : Exit → Act → World → Prop} (hgd : o.guard = none) (sl x : Operand)
    (ho : o.op = .call { callee := .builtin .append, args := #[sl, x], argTypes := #[91, 91] })
    (b : UInt8) (k : Int) (hk : k = b.toNat) (B : Nat) (v : Value) (l : List UInt8) (hs : a.eval sl = v) (hown : OwnB w0 B v l) (hx : a.eval x = .slice (some ⟨w0.heap.size, 0, none⟩) 1 1)
    (hlen : l.length < 1099511627776) (hB : B ≤ w0.heap.size)
    (h : ∀ v' w', OwnB w' B v' (l ++ [b]) → Below B w0 w' → wpList Tryd.prog ops Q rest (a.put o.dst v') w') : wpList Tryd.prog ops Q (o :: rest) a (w0.alloc (.cells #[.int .u8 k] 5)) := by
  subst hk
  refine step_one _ hgd sl x 91 5 _ _ ho Tryd.underlying91 byteInfo rfl B v _ hs (hown.toV.alloc _) ⟨w0.heap.size, 0, none⟩ 1 (.int .u8 (b.toNat : Int)) hx (by rw [cell_of_row _ _ 0 _ _ (0, 0) (heap_alloc_new _ _)]; rfl) rfl (by rw [Lib.byteCells_length]; exact hlen) (by omega) (by simp; omega) fun v' w' h1 h2 => h v' w' ?_ ?_
  · refine OwnV.toB ?_
    rw [Lib.byteCells_append]
    exact h1
  · exact ((Below.refl _ _).alloc hB _).trans h2
end Go.Proofs.YtmmpndijfbbnnaaDoor
