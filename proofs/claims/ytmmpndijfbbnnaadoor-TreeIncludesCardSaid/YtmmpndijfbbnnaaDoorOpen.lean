/- The arguments of the laws, opened: strings, small numbers, slices of strings. No conditions. -/
import Derived.Test.YtmmpndijfbbnnaaDoorPost
import Derived.Test.YtmmpndijfbbnnaaDoorEnv
import Derived.SliceStrings
namespace Go.Proofs.YtmmpndijfbbnnaaDoor
open Go Go.RowKit Go.ChangeShapes Go.WideShapes Go.ChangeAt Go.WideMaps Go.WideElems
open Go.ChangeMaps (open_string)
theorem laid_mem {P : Program} {w : World} {n : String} {d : DataW Unit} : ∀ {l : List (String × DataW Unit)} {ps : List MemPlace}, (n, d) ∈ l → DataW.LaidVars P w l ps →
    ∃ g t cs fuel p, P.globalNamed n = some g ∧ (P.globals[g]?).map (·.type) = some t ∧ w.var? P n = some cs ∧ DataW.trod (fun _ => ()) P w 0 (fun _ => true) false fuel t cs.toList = some (d, p)
  | [], _, hm, _ => by cases hm
  | x :: r, ps, hm, h => by
    obtain ⟨g, t, cs, fuel, p, q, h1, h2, h3, h4, h5, _⟩ := h
    rcases List.mem_cons.1 hm with hx | hx
    · subst hx
      exact ⟨g, t, cs, fuel, p, h1, h2, h3, h4⟩
    · exact laid_mem hx h5
theorem env_of_laid {W : World} {l : List (String × DataW Unit)} (hp : (l.all fun x => x.2.handleName?.isNone) = true) (hm : ("internal/strconv.uint64pow10", Lib.tabData .u64 Lib.pow10Tab) ∈ l) (h : laidMetH Tryd.prog l W) : Env W := by
  rw [MakeChecks.laidMetH_plain _ _ _ hp] at h
  obtain ⟨ps, hl, _⟩ := h
  obtain ⟨g, t, cs, fuel, p, hg, ht, hvar, hd⟩ := laid_mem hm hl
  obtain rfl := Option.some.inj (gPow.symm.trans hg)
  obtain rfl := Option.some.inj ((show (Tryd.prog.globals[3]?).map (·.type) = some 140 by kernel_rfl).symm.trans ht)
  unfold Env Lib.TabIs
  rw [hvar, ← Lib.cells_of_tab Tryd.underlying140 Tryd.underlying88 (by kernel_rfl) (by kernel_rfl) hd]
section
variable {H : Type} {enc : TypeId × Value → H}
theorem addr_of_cell {w : World} {a : Addr} {v : Value} (h : w.cell? a = some v) : a = ⟨a.block, a.off, none⟩ ∧ a.block < w.heap.size := by
  refine ⟨?_, block_lt_of_cell h⟩
  obtain ⟨b, off, sp⟩ := a
  cases sp with
  | none => rfl
  | some k =>
    exfalso
    unfold World.cell? at h
    simp at h
    split at h <;> simp at h
theorem add_plain (b off j : Nat) : (⟨b, off, none⟩ : Addr).add j = ⟨b, off + j, none⟩ := by
  unfold Addr.add
  by_cases h : j = 0
  · rw [if_pos h, h, Nat.add_zero]
  · rw [if_neg h]
set_option maxRecDepth 100000 in
theorem open_strs {W : World} {v : Value} {d : DataW H} {p : List MemPlace} {base : Nat} (hv : Value.okWide Tryd.prog W .any base 22 v) (h : DataW.Trod enc Tryd.prog W 0 (fun _ => true) true 22 v d p) :
    ∃ (A : Option Addr) (c : Nat) (l : List ByteArray), v = .slice A l.length c ∧ l.length ≤ 9223372036854775807 ∧ (∀ s ∈ l, s.size ≤ 9223372036854775807) ∧ Strs W W.heap.size A l := by
  obtain ⟨a0, len, cap, rfl⟩ := okWide_slice Tryd.underlying22 hv
  obtain ⟨fuel, hf⟩ := h
  rcases open_strings Tryd.underlying22 Tryd.underlying9 (by kernel_rfl) hf with ⟨hcs, _⟩ | ⟨a, len', cap', ss, hcs, _, hl, hm, hz, _, hcell, hws⟩
  · simp [Value.cells] at hcs
    obtain ⟨rfl, rfl, rfl⟩ := hcs
    exact ⟨none, 0, [], rfl, by simp, by simp, Strs.nil _ _ _⟩
  · simp [Value.cells] at hcs
    obtain ⟨rfl, rfl, rfl⟩ := hcs
    simp only [if_true] at hz
    unfold maxLen at hm
    have htl : (ss.take len).length = len := by rw [List.length_take, hz]; omega
    refine ⟨some a, cap, ss.take len, by rw [htl], by rw [htl]; omega, fun s hs => hws s (List.mem_of_mem_take hs), ⟨fun h0 => ?_⟩⟩
    rw [htl] at h0
    have h00 : a.add 0 = a := by unfold Addr.add; rw [if_pos rfl]
    obtain ⟨e, hb⟩ := addr_of_cell (h00 ▸ hcell 0 (by omega))
    refine ⟨a.block, a.off, by rw [← e], hb, fun j s hj => ?_⟩
    have hjl : j < len := by
      have := (List.getElem?_eq_some_iff.1 hj).1
      rw [htl] at this; exact this
    have h1 := hcell j (by omega)
    rw [List.getElem?_take, if_pos hjl] at hj
    rw [List.getD_eq_getElem?_getD, hj] at h1
    have e2 : a.add j = ⟨a.block, a.off + j, none⟩ := by
      conv => lhs; rw [e]
      exact add_plain _ _ _
    rw [← e2]
    exact h1
end
end Go.Proofs.YtmmpndijfbbnnaaDoor
