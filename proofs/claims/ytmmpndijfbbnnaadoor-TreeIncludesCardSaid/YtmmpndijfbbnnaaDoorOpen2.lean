/- A slice of strings that came in, opened with its capacity. No conditions. -/
import Derived.Test.YtmmpndijfbbnnaaDoorOpen
namespace Go.Proofs.YtmmpndijfbbnnaaDoor
open Go Go.RowKit Go.ChangeShapes Go.WideShapes Go.ChangeAt Go.WideMaps Go.WideElems
variable {H : Type} {enc : TypeId × Value → H}
set_option maxRecDepth 100000 in
theorem open_strs2 {W : World} {v : Value} {d : DataW H} {p : List MemPlace} {base : Nat} (hv : Value.okWide Tryd.prog W .any base 22 v) (h : DataW.Trod enc Tryd.prog W 0 (fun _ => true) true 22 v d p) :
    ∃ (A : Option Addr) (c : Nat) (l : List ByteArray), v = .slice A l.length c ∧ l.length ≤ 9223372036854775807 ∧ (∀ s ∈ l, s.size ≤ 9223372036854775807) ∧ Strs W W.heap.size A l ∧ l.length ≤ c := by
  obtain ⟨A, c, l, rfl, h1, h2, h3⟩ := open_strs hv h
  refine ⟨A, c, l, rfl, h1, h2, h3, ?_⟩
  obtain ⟨fuel, hf⟩ := h
  rcases open_strings Tryd.underlying22 Tryd.underlying9 (by kernel_rfl) hf with ⟨hcs, _⟩ | ⟨a, len', cap', ss, hcs, _, hl, hm, hz, _, hcell, hws⟩
  · simp [Value.cells] at hcs
    rw [hcs.2.1]
    exact Nat.zero_le _
  · simp [Value.cells] at hcs
    omega
end Go.Proofs.YtmmpndijfbbnnaaDoor
