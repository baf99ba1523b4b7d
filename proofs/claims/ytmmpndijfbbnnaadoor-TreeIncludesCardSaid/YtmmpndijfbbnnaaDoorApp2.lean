/- Appends once more: whatever slice of strings, where the operation is wanted. -/
import Derived.Test.YtmmpndijfbbnnaaDoorLawT
namespace Go.Proofs.YtmmpndijfbbnnaaDoor
open Go Go.RowKit Go.Sort
theorem own_empty (w : World) (T : TypeId) (B : Nat) (hT : T = 9) (hB : B ≤ w.heap.size) : OwnS (w.alloc (.cells #[] T)) B (.slice (some ⟨w.heap.size, 0, none⟩) 0 0) [] := by
  subst hT
  exact ⟨rfl, Or.inr ⟨w.heap.size, 0, #[], rfl, hB, heap_alloc_new w _, Nat.le_refl _, Nat.zero_le _, rfl, rfl⟩⟩
theorem run_append_none {P : Program} {w : World} (base : Nat) (t ty e : TypeId) (i : TypeInfo) (size : Nat) (ht : P.underlying t = some (.slice e)) (hi : P.info? e = some i) (v : Value) (n : Nat) (xs : List Value) (hown : w.ownsRow base e size v n xs) (c : Nat) :
    (Builtin.append_ #[t, t] ty #[v, .slice none 0 c]).run P w = .ok v w := by
  rcases hown.2 with ⟨rfl, rfl⟩ | ⟨g, cap, cur, rfl, _, _, hnc, _⟩
  · simp [Builtin.append_, run_underlying ht, sizeOf, typeInfo, hi, Builtin.lenOf, Builtin.firstCells]
  · simp [Builtin.append_, run_underlying ht, sizeOf, typeInfo, hi, Builtin.lenOf, Builtin.firstCells, hnc, storeCells]
/-- A slice of strings, whatever it is, onto strings of the call's own. -/
theorem wp_ad {w : World} {o : Oper} {a : Act} {K : Act → World → Prop} {Q : Exit → Act → World → Prop} (sl x : Operand)
    (ho : o.op = .call { callee := .builtin .append, args := #[sl, x], argTypes := #[22, 22] })
    (B B' : Nat) (v : Value) (l l' : List ByteArray) (hs : a.eval sl = v) (hown : OwnS w B v l) (A : Option Addr) (n cap : Nat) (hn : l'.length = n) (hx : a.eval x = .slice A n cap) (hS : Strs w B' A l')
    (hlen : l.length + n < 1099511627776) (hB : B ≤ w.heap.size)
    (h : ∀ v' w', OwnS w' B v' (l ++ l') → Below B w w' → w.grownBy w' v.ownBlock → K (a.put o.dst v') w') : o.wp Tryd.prog a w K Q := by
  subst hn
  obtain ⟨i, h1, h2, h3, h4⟩ := info_parts strInfo
  have hown' := hown
  unfold OwnS OwnV at hown
  rw [List.length_map] at hown
  cases A with
  | none =>
    have h0 : l' = [] := by
      cases l' with
      | nil => rfl
      | cons y r =>
        obtain ⟨b, off, e, _⟩ := hS.at_ (by simp)
        cases e
    subst h0
    have hrun := run_append_none (P := Tryd.prog) B 22 o.type 9 i 1 Tryd.underlying22 h1 v l.length _ hown cap
    unfold Oper.wp execOp
    simp only [ho, resolve, invoke, builtin, Sem.run_bind, Sem.run_pure, Result.andThen_ok, List.map_toArray, List.map_cons, List.map_nil, hs, hx, List.length_nil, hrun]
    exact h v w (by rw [List.append_nil]; exact hown') (Below.refl _ _) (World.grownBy.refl w _)
  | some ad =>
    obtain ⟨v', w', hr, h5, h6, _, _⟩ := run_append_own_at (P := Tryd.prog) w B 22 o.type 9 i _ 1 16 Tryd.underlying22 h1 h2 h3 h4 rfl (by omega) v l.length _ hown ad l'.length cap (l'.map .string) (by rw [List.length_map, Nat.mul_one]) (fun j u hj => by
      rw [List.getElem?_map] at hj
      cases hq : l'[j]? with
      | none => rw [hq] at hj; cases hj
      | some s =>
        rw [hq] at hj
        obtain rfl : Value.string s = u := by simpa using hj
        obtain ⟨b, off, e, _, hc⟩ := hS.at_ (by have := (List.getElem?_eq_some_iff.1 hq).1; omega)
        cases e
        rw [addr_off]
        exact hc j s hq) (fun u hu => by obtain ⟨s, _, rfl⟩ := List.mem_map.1 hu; rfl) (by unfold maxLen; omega) (by omega) hB
    unfold Oper.wp execOp
    simp only [ho, resolve, invoke, builtin, Sem.run_bind, Sem.run_pure, Result.andThen_ok, List.map_toArray, List.map_cons, List.map_nil, hs, hx, hr]
    refine h v' w' ?_ (below_own hown h6 hB) h6
    unfold OwnS OwnV
    rw [List.length_map, List.length_append, List.map_append]
    exact h5
theorem step_ad {w : World} {ops : Array Oper} {o : Oper} {a : Act} {K : Act → World → Prop} {Q : Exit → Act → World → Prop} {E : Prop} (hgd : Region.wanted o (yielded ops a.tmps) = true) (sl x : Operand)
    (ho : o.op = .call { callee := .builtin .append, args := #[sl, x], argTypes := #[22, 22] })
    (B B' : Nat) (v : Value) (l l' : List ByteArray) (hs : a.eval sl = v) (hown : OwnS w B v l) (A : Option Addr) (n cap : Nat) (hn : l'.length = n) (hx : a.eval x = .slice A n cap) (hS : Strs w B' A l')
    (hlen : l.length + n < 1099511627776) (hB : B ≤ w.heap.size)
    (h : ∀ v' w', OwnS w' B v' (l ++ l') → Below B w w' → w.grownBy w' v.ownBlock → K (a.put o.dst v') w') :
    if Region.wanted o (yielded ops a.tmps) = true then Oper.wp Tryd.prog o a w K Q else E := by
  rw [if_pos hgd]
  exact wp_ad sl x ho B B' v l l' hs hown A n cap hn hx hS hlen hB h
/-- One string by its cell, where the operation is wanted. -/
theorem step_cw {w : World} {ops : Array Oper} {o : Oper} {a : Act} {K : Act → World → Prop} {Q : Exit → Act → World → Prop} {E : Prop} (hgd : Region.wanted o (yielded ops a.tmps) = true) (sl x : Operand)
    (ho : o.op = .call { callee := .builtin .append, args := #[sl, x], argTypes := #[22, 22] })
    (s : ByteArray) (B : Nat) (v : Value) (l : List ByteArray) (hs : a.eval sl = v) (hown : OwnS w B v l) (ad : Addr) (c : Nat) (hx : a.eval x = .slice (some ad) 1 c) (hc : w.cell? ad = some (.string s))
    (hlen : l.length < 1099511627776) (hB : B ≤ w.heap.size) (n : Nat) (hn : l.length + 1 = n)
    (h : ∀ g cap w', OwnS w' B (.slice (some ⟨g, 0, none⟩) n cap) (l ++ [s]) → Below B w w' → K (a.put o.dst (.slice (some ⟨g, 0, none⟩) n cap)) w') :
    if Region.wanted o (yielded ops a.tmps) = true then Oper.wp Tryd.prog o a w K Q else E := by
  subst hn
  obtain ⟨i, h1, h2, h3, h4⟩ := info_parts strInfo
  unfold OwnS OwnV at hown
  rw [List.length_map] at hown
  rw [if_pos hgd]
  refine wp_append_lies w sl x 22 ho B 9 i _ 1 16 Tryd.underlying22 h1 h2 h3 h4 rfl (by omega) v l.length _ hs hown ad 1 c [.string s] hx rfl ?_ ?_ (by omega) (by unfold maxLen; omega) (by omega) hB w.heap.size rfl fun g cap w' h5 h6 _ _ => h g cap w' ?_ (below_own hown h6 hB)
  · intro j u' hj
    rcases j with _ | j
    · obtain rfl : Value.string s = u' := by simpa using hj
      have : ad.add 0 = ad := by unfold Addr.add; simp
      rw [this]; exact hc
    · simp at hj
  · intro u' hu'
    obtain rfl : u' = Value.string s := by simpa using hu'
    rfl
  · unfold OwnS OwnV
    rw [List.length_map, List.length_append, List.map_append, List.length_singleton]
    exact h5
/-- A literal's cell behind an append that may have written another row. -/
theorem lit_far {W wF : World} {bl g0 : Nat} {s : ByteArray} (hc : W.cell? ⟨bl, 0, none⟩ = some (.string s)) (hgr : W.grownBy wF (some g0)) (hne : bl ≠ g0) : wF.cell? ⟨bl, 0, none⟩ = some (.string s) := by
  rw [hgr.cell_far ⟨bl, 0, none⟩ (World.block_lt_of_cell? W _ hc) (fun h => hne (Option.some.inj h))]
  exact hc
theorem OwnS.grown {w w' : World} {B g n cap ga : Nat} {l : List ByteArray} (h : OwnS w B (.slice (some ⟨g, 0, none⟩) n cap) l) (hg : w.grownBy w' (some ga)) (hne : ga ≠ g) : OwnS w' B (.slice (some ⟨g, 0, none⟩) n cap) l := by
  have hb := h.bounds
  obtain ⟨h1, h2⟩ := h
  refine ⟨h1, ?_⟩
  rcases h2 with ⟨h2, _⟩ | ⟨g', cap', cur, hv, hB, hh, r⟩
  · injection h2 with h2 _ _; cases h2
  · have hv' := hv
    injection hv with hv _ _
    injection hv with hv
    injection hv with hv _ _
    subst hv
    exact Or.inr ⟨g, cap', cur, hv', hB, by rw [hg.block g hb.2 (fun e => hne (Option.some.inj e).symm)]; exact hh, r⟩
/-- The same in a plain region; what comes is not empty. -/
theorem step_aw {w : World} {ops : Array Oper} {rest : List Oper} {o : Oper} {a : Act} {Q : Exit → Act → World → Prop} (hgd : Region.wanted o (yielded ops a.tmps) = true) (sl x : Operand)
    (ho : o.op = .call { callee := .builtin .append, args := #[sl, x], argTypes := #[22, 22] })
    (B B' : Nat) (v : Value) (l l' : List ByteArray) (hs : a.eval sl = v) (hown : OwnS w B v l) (A : Option Addr) (n cap : Nat) (hn : l'.length = n) (hx : a.eval x = .slice A n cap) (hS : Strs w B' A l')
    (h0 : 0 < l.length) (hlen : l.length + n < 1099511627776) (hB : B ≤ w.heap.size) (k : Nat) (hk : l.length + n = k)
    (h : ∀ g cap w', OwnS w' B (.slice (some ⟨g, 0, none⟩) k cap) (l ++ l') → Below B w w' → wpList Tryd.prog ops Q rest (a.put o.dst (.slice (some ⟨g, 0, none⟩) k cap)) w') : wpList Tryd.prog ops Q (o :: rest) a w := by
  subst hk
  refine wpList_wanted hgd fun K hK => wp_ad sl x ho B B' v l l' hs hown A n cap hn hx hS hlen hB fun v' w' h1 h2 _ => hK _ _ ?_
  obtain ⟨g, c, rfl, _, _⟩ := h1.full (by rw [List.length_append]; omega)
  have e : (l ++ l').length = l.length + n := by rw [List.length_append, hn]
  rw [e] at h1 ⊢
  exact h g c w' h1 h2
end Go.Proofs.YtmmpndijfbbnnaaDoor
