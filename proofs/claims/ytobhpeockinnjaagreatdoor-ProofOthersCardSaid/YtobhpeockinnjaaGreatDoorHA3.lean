/- Walks and laws of this seat, several texts in one: Round, RegL, C6, C7, C8, C9, Code3, Code4, C10, C11, C12, C13, C14, C15, C24, C25, C33, C39, P1, P3, P4, P7, Seal, SealLaw. No conditions but those that each theorem states. -/
import Derived.Test.YtobhpeockinnjaaGreatDoorHA2
import Derived.OrdersIn
import Derived.RangeFuncCalls
import Derived.Deep.RegionHeld
import Derived.Laws.StructEq
import Derived.Maps.OwnSet
/- A region that draws its order, in the body of a range over a function: it goes by the plain laws. No conditions. -/
namespace Go.Proofs.YtobhpeockinnjaaGreatDoor
open Go
section
variable {P : Program} {ops : Array Oper} {Q : Exit → Act → World → Prop} {md : Region.Mode}
theorem rows_wide {l n : Nat} {row : String} {args : Array Value} {w : World} {R : Value → World → Prop} (h : Rows P row args w R) : RowsIn (Fence.wide.inRound l) n P row args w R := fun c cs _ => by
  obtain ⟨v, w', r, s⟩ := h c cs
  exact ⟨v, w', r, (stepsIn_wide (P := P)).2 s⟩
theorem oper_round {l n : Nat} {o : Oper} {a : Act} {w : World} {K : Act → World → Prop} (hd : ∀ c, o.op ≠ .defer c) (h : o.wp P a w K Q) : o.wpIn (Fence.wide.inRound l) n P a w K Q := by
  unfold Oper.wpIn
  refine ⟨fun _ _ => trivial, ?_⟩
  rw [Oper.semAt_eq _ _ _ hd]
  unfold Oper.wp at h
  generalize (execOp a.eval o).run P w = r at *
  cases r with
  | ok x w' =>
    cases x <;> simp only [Oper.upon, Oper.uponIn] at h ⊢ <;>
      first
        | exact h
        | exact ⟨fun h => (by cases h), CallsIn.inRound l (callsIn_wide.2 h)⟩
        | exact ⟨fun h => (by cases h), rows_wide h⟩
  | halt x w' => cases x <;> simp only [Oper.upon, Oper.uponIn] at h ⊢ <;> exact h
theorem wpOp_round {l n i : Nat} {a : Act} {w : World} {K K' : Act → World → Prop} (hd : ∀ o c, ops[i]? = some o → o.op ≠ .defer c) (hQ : ¬ LetsOut Q) (hK : ∀ a w, K a w → K' a w) (h : wpOp P ops Q i K a w) : wpOpIn (Fence.wide.inRound l) n P ops Q i K' a w := by
  unfold wpOp at h
  unfold wpOpIn
  cases ho : ops[i]? with
  | none => simp only [ho] at h ⊢; exact hK _ _ h
  | some o =>
    simp only [ho] at h ⊢
    split
    · rename_i hw
      simp only [hw, if_true] at h
      rcases h with h | h
      · exact Oper.wpIn_mono hK (oper_round (hd o · ho) h)
      · exact absurd h.2 hQ
    · rename_i hw
      simp only [hw] at h
      exact ⟨fun _ _ => trivial, hK _ _ h⟩
theorem wpAny_round {l n : Nat} (hd : ∀ (i : Nat) o c, ops[i]? = some o → o.op ≠ .defer c) (hQ : ¬ LetsOut Q) : ∀ (fuel : Nat) (listed : Array Bool) (a : Act) (w : World), wpAny P md ops Q fuel listed a w → wpAnyIn (Fence.wide.inRound l) n P md ops Q fuel listed a w
  | 0, _, _, _, h => h
  | fuel + 1, _, _, _, h => ⟨h.1, fun i hi => wpOp_round (hd i) hQ (fun a' w' h' => wpAny_round hd hQ fuel _ a' w' h') (h.2 i hi)⟩
def noDefer (ops : Array Oper) : Bool := ops.all fun o => match o.op with | .defer _ => false | _ => true
theorem noDefer_spec (h : noDefer ops = true) (i : Nat) (o : Oper) (c : Call) (ho : ops[i]? = some o) : o.op ≠ .defer c := fun e => by
  unfold noDefer at h
  have := Array.all_eq_true.1 h i (Array.getElem?_eq_some_iff.1 ho).1
  rw [(Array.getElem?_eq_some_iff.1 ho).2, e] at this
  exact Bool.noConfusion this
theorem wpIn_region_round {l n id : Nat} {S : World → Prop} {a : Act} {w : World} (hm : P.follows .mixedOrders = true) (hd : noDefer ops = true) (hQ : ¬ LetsOut Q) (hS : S w.drew)
    (h : S w.drew → wpAnyH P .any ops Q S ops.size (Array.replicate ops.size false) a w.drew) : (Code.region id ops true).wpIn (Fence.wide.inRound l) n P Q a w :=
  wpIn_region_any hm (wpAny_round (noDefer_spec hd) hQ _ _ _ _ (wpAny_of_held _ _ _ _ (h hS)))
end
end Go.Proofs.YtobhpeockinnjaaGreatDoor
/- A region that draws its order and stores, as its last doing, into a cell that it loads before ('x = append(x, f(y))'): the loads are taken first, under a condition that is asked only till operation k has come up, which waits for them. In a plain body, and in the body of a range over a function. No conditions. -/
namespace Go.Proofs.YtobhpeockinnjaaGreatDoor
open Go Go.RowKit
theorem below_undrew {B : Nat} {W W' : World} (h : Below B W.drew W') : Below B W W' := ⟨h.os, h.tape, h.output, h.size, h.block⟩
section
variable {P : Program} {ops : Array Oper} {Q : Exit → Act → World → Prop} {md : Region.Mode} {S : World → Prop} {k : Nat}
def closedB (md : Region.Mode) (ops : Array Oper) (listed : Array Bool) : Bool :=
  (List.range ops.size).all fun j => !listed.getD j false || (match ops[j]? with | none => true | some o => o.after.all fun e => !Region.binds md e || listed.getD e.on false)
def waitsF (md : Region.Mode) (ops : Array Oper) : Nat → Nat → Nat → Bool
  | 0, _, _ => false
  | f + 1, k, i => match ops[k]? with | none => false | some o => o.after.any fun e => Region.binds md e && (e.on == i || waitsF md ops f e.on i)
theorem closed_spec {listed : Array Bool} (h : closedB md ops listed = true) {j : Nat} {o : Oper} (ho : ops[j]? = some o) (hj : listed.getD j false = true) : ∀ e ∈ o.after, Region.binds md e = true → listed.getD e.on false = true := fun e he hb => by
  unfold closedB at h
  have h1 := List.all_eq_true.1 h j (List.mem_range.2 (Array.getElem?_eq_some_iff.1 ho).1)
  rw [ho, hj] at h1
  simp only [Bool.not_true, Bool.false_or] at h1
  have h2 := Array.all_eq_true'.1 h1 e he
  rw [hb] at h2
  simpa using h2
theorem ready_after {listed : Array Bool} {j : Nat} {o : Oper} (ho : ops[j]? = some o) (hj : j ∈ Region.ready md ops listed) : ∀ e ∈ o.after, Region.binds md e = true → listed.getD e.on false = true := fun e he hb => by
  obtain ⟨_, o', ho', hall⟩ := mem_ready.1 hj
  obtain rfl : o = o' := Option.some.inj (ho.symm.trans ho')
  exact hall e he hb
theorem getD_set_same {listed : Array Bool} {j : Nat} (d : Bool) (h : j < listed.size) : (listed.setIfInBounds j true).getD j d = true := by
  simp [Array.getD, h]
theorem getD_false_true {listed : Array Bool} {j : Nat} (h : listed.getD j true = false) : listed.getD j false = false := by
  rcases Nat.lt_or_ge j listed.size with h1 | h1
  · simp [h1] at h ⊢; exact h
  · simp [Nat.not_lt.2 h1] at h
theorem closed_set {listed : Array Bool} (h : closedB md ops listed = true) {j : Nat} (hj : j ∈ Region.ready md ops listed) : closedB md ops (listed.setIfInBounds j true) = true := by
  unfold closedB
  refine List.all_eq_true.2 fun i hi => ?_
  have hmono : ∀ n, listed.getD n false = true → (listed.setIfInBounds j true).getD n false = true := fun n hn => by
    by_cases hjn : j = n
    · subst hjn
      refine getD_set_same _ ?_
      rcases Nat.lt_or_ge j listed.size with h' | h'
      · exact h'
      · simp [Nat.not_lt.2 h'] at hn
    · rw [getD_set_ne false hjn]; exact hn
  cases ho : ops[i]? with
  | none => simp
  | some o =>
    cases hl : (listed.setIfInBounds j true).getD i false with
    | false => simp
    | true =>
      simp only [Bool.not_true, Bool.false_or]
      refine Array.all_eq_true'.2 fun e he => ?_
      cases hb : Region.binds md e with
      | false => simp
      | true =>
        simp only [Bool.not_true, Bool.false_or]
        refine hmono _ ?_
        by_cases hji : j = i
        · subst hji; exact ready_after ho hj e he hb
        · rw [getD_set_ne false hji] at hl
          exact closed_spec h ho hl e he hb
theorem waits_spec {listed : Array Bool} (h : closedB md ops listed = true) : ∀ (f k i : Nat), waitsF md ops f k i = true → (∀ o, ops[k]? = some o → ∀ e ∈ o.after, Region.binds md e = true → listed.getD e.on false = true) → listed.getD i false = true
  | 0, _, _, hw, _ => by cases hw
  | f + 1, k, i, hw, hk => by
    unfold waitsF at hw
    cases ho : ops[k]? with
    | none => rw [ho] at hw; cases hw
    | some o =>
      rw [ho] at hw
      obtain ⟨e, he, hb⟩ := Array.any_eq_true'.1 hw
      rw [Bool.and_eq_true, Bool.or_eq_true] at hb
      have h1 := hk o ho e he hb.1
      rcases hb.2 with h2 | h2
      · rw [beq_iff_eq] at h2; rw [← h2]; exact h1
      · exact waits_spec h f e.on i h2 (fun o' ho' => closed_spec h ho' h1)
/-- S is asked till operation k has come up. -/
def SL (S : World → Prop) (k : Nat) (listed : Array Bool) (w : World) : Prop := listed.getD k false = true ∨ S w
def wpAnyL (P : Program) (md : Region.Mode) (ops : Array Oper) (Q : Exit → Act → World → Prop) (S : World → Prop) (k : Nat) : Nat → Array Bool → Act → World → Prop
  | 0, listed, a, w => Region.ready md ops listed = [] ∧ Q .normal a w
  | fuel + 1, listed, a, w =>
    (Region.ready md ops listed = [] → Q .normal a w) ∧
    ∀ i ∈ Region.ready md ops listed, wpOp P ops Q i (fun a' w' => SL S k (listed.setIfInBounds i true) w' ∧ wpAnyL P md ops Q S k fuel (listed.setIfInBounds i true) a' w') a w
theorem wpAny_of_L : ∀ (fuel : Nat) (listed : Array Bool) (a : Act) (w : World), wpAnyL P md ops Q S k fuel listed a w → wpAny P md ops Q fuel listed a w
  | 0, _, _, _, h => h
  | fuel + 1, _, _, _, h => ⟨h.1, fun i hi => wpOp_mono (fun a' w' h' => wpAny_of_L fuel _ a' w' h'.2) (h.2 i hi)⟩
theorem wpAnyL_first {i f0 : Nat} {oi : Oper} {v : Value} (hi : ops[i]? = some oi) (hsel : ∀ (j : Nat) (o : Oper) cs b, ops[j]? = some o → o.op ≠ .select cs b)
    (hQ : ∀ c a w, Q (.panic c) (a.put oi.dst v) w → Q (.panic c) a w) (hk : waitsF md ops f0 k i = true ∨ ops.size ≤ k) :
    ∀ (fuel : Nat) (listed : Array Bool) (a : Act) (w : World),
      (∀ j oj, ops[j]? = some oj → j ≠ i → listed.getD j true = false → (∀ e ∈ oj.after, Region.binds md e = true → e.on ≠ i) → oi.apart ops oj = true) →
      i ∈ Region.ready md ops listed → closedB md ops listed = true → listed.getD k false = false → YieldsIf P ops S oi v a → S w →
      wpAnyL P md ops Q S k fuel (listed.setIfInBounds i true) (a.put oi.dst v) w → wpAnyL P md ops Q S k (fuel + 1) listed a w := by
  intro fuel
  induction fuel with
  | zero =>
    intro listed a w _ hr _ _ hy hS H
    refine ⟨fun h => (by rw [h] at hr; cases hr), fun j hj => ?_⟩
    by_cases hji : j = i
    · subst hji; exact hy.wpOp hi hS ⟨Or.inr hS, H⟩
    · have := ready_mono hj hji
      rw [H.1] at this
      cases this
  | succ fuel ih =>
    intro listed a w hfree hr hcl hlk hy hS H
    refine ⟨fun h => (by rw [h] at hr; cases hr), fun j hj => ?_⟩
    by_cases hji : j = i
    · subst hji; exact hy.wpOp hi hS ⟨Or.inr hS, H⟩
    · have hiu := getD_false_true (mem_ready.1 hr).1
      have hall' : ∀ j, j ∈ Region.ready md ops listed → j ≠ k := fun j hj e => by
        subst e
        rcases hk with hk | hk
        · have := waits_spec hcl f0 j i hk (fun o ho => ready_after ho hj)
          rw [hiu] at this
          cases this
        · obtain ⟨_, o, ho, _⟩ := mem_ready.1 hj
          have := (Array.getElem?_eq_some_iff.1 ho).1
          omega
      have hjk := hall' j hj
      have hik := hall' i hr
      have h1 := H.2 j (ready_mono hj hji)
      obtain ⟨hjun, oj, hoj, hall⟩ := mem_ready.1 hj
      have hnot : ∀ e ∈ oj.after, Region.binds md e = true → e.on ≠ i := fun e he hb heq => by
        have h1 := hall e he hb
        rw [heq, hiu] at h1
        cases h1
      have h2 := wpOp_putIf hoj (hfree j oj hoj hji hjun hnot) (fun cs b => hsel i oi cs b hi) (fun cs b => hsel j oj cs b hoj) hQ hy h1
      have hfree' : ∀ n on, ops[n]? = some on → n ≠ i → (listed.setIfInBounds j true).getD n true = false →
          (∀ e ∈ on.after, Region.binds md e = true → e.on ≠ i) → oi.apart ops on = true := fun n on hn hni hun hno => by
        refine hfree n on hn hni ?_ hno
        by_cases hjn : j = n
        · subst hjn; exact hjun
        · rw [getD_set_ne true hjn] at hun; exact hun
      refine wpOp_mono (fun a' w' h3 => ?_) h2
      have hlk' : (listed.setIfInBounds j true).getD k false = false := by rw [getD_set_ne false hjk]; exact hlk
      have hS' : S w' := by
        rcases h3.2.1 with h4 | h4
        · rw [getD_set_ne false hjk, getD_set_ne false hik, hlk] at h4
          cases h4
        · exact h4
      refine ⟨Or.inr hS', ih (listed.setIfInBounds j true) a' w' hfree' (ready_mono hr (Ne.symm hji)) (closed_set hcl hj) hlk' h3.1 hS' ?_⟩
      rw [Array.setIfInBounds_comm _ _ hji]
      exact h3.2.2
theorem wpAnyL_take {i f0 : Nat} {oi : Oper} {v : Value} {fuel : Nat} {listed : Array Bool} {a : Act} {w : World} (hi : ops[i]? = some oi)
    (hs : Region.noSelect ops = true) (hf : Region.free md ops listed i = true) (hr : (Region.ready md ops listed).contains i = true)
    (hk : (waitsF md ops f0 k i || decide (ops.size ≤ k)) = true) (hcl : (closedB md ops listed && !listed.getD k false) = true)
    (hQ : ∀ c a w, Q (.panic c) (a.put oi.dst v) w → Q (.panic c) a w) (hy : YieldsIf P ops S oi v a) (hS : S w)
    (h : wpAnyL P md ops Q S k fuel (listed.setIfInBounds i true) (a.put oi.dst v) w) : wpAnyL P md ops Q S k (fuel + 1) listed a w := by
  rw [Bool.and_eq_true] at hcl
  rw [Bool.or_eq_true, decide_eq_true_eq] at hk
  exact wpAnyL_first hi (Region.noSelect_spec hs) hQ hk fuel listed a w (Region.free_spec hi hf) (by simpa using hr) hcl.1 (by simpa using hcl.2) hy hS h
/-- The one operation that may come up comes up. -/
theorem wpAnyL_one {i : Nat} {o : Oper} {fuel : Nat} {listed : Array Bool} {a : Act} {w : World} (hr : Region.ready md ops listed = [i]) (ho : ops[i]? = some o)
    (h : ∀ K' : Act → World → Prop, Hid (∀ a w, SL S k (listed.setIfInBounds i true) w → wpAnyL P md ops Q S k fuel (listed.setIfInBounds i true) a w → K' a w) → if Region.wanted o (yielded ops a.tmps) = true then Oper.wp P o a w K' Q else K' (a.put o.dst undef) w) : wpAnyL P md ops Q S k (fuel + 1) listed a w :=
  ⟨fun h0 => absurd (hr.symm.trans h0) (by simp), fun j hj => by
    rw [hr] at hj
    obtain rfl := List.mem_singleton.1 hj
    exact wpOp_step ho (fun K' hK => h K' (fun a w hS hW => hK a w ⟨hS, hW⟩))⟩
theorem wpAnyL_done {listed : Array Bool} {a : Act} {w : World} (hr : Region.ready md ops listed = []) (h : Q .normal a w) : ∀ fuel, wpAnyL P md ops Q S k fuel listed a w
  | 0 => ⟨hr, h⟩
  | _ + 1 => ⟨fun _ => h, by rw [hr]; simp⟩
theorem wp_region_L (S : World → Prop) (k : Nat) {id : Nat} {a : Act} {w : World} (hm : P.follows .mixedOrders = true) (h : wpAnyL P .any ops Q S k ops.size (Array.replicate ops.size false) a w.drew) : (Code.region id ops true).wp P Q a w :=
  wp_region_any hm (wpAny_of_L _ _ _ _ h)
theorem wpIn_region_L (S : World → Prop) (k : Nat) {l n id : Nat} {a : Act} {w : World} (hm : P.follows .mixedOrders = true) (hd : noDefer ops = true) (hQ : ¬ LetsOut Q)
    (h : wpAnyL P .any ops Q S k ops.size (Array.replicate ops.size false) a w.drew) : (Code.region id ops true).wpIn (Fence.wide.inRound l) n P Q a w :=
  wpIn_region_any hm (wpAny_round (noDefer_spec hd) hQ _ _ _ _ (wpAny_of_L _ _ _ _ h))
end
end Go.Proofs.YtobhpeockinnjaaGreatDoor
/- Lists that visits write: Valid; what a list written by visits is good for. No conditions but those that each theorem states. -/
namespace Go.Proofs.YtobhpeockinnjaaGreatDoor
open Go Go.RowKit Go.Sort Go.Maps
/-- An append to strings of the call's own, with what it leaves. -/
theorem wp_ag {w : World} {o : Oper} {a : Act} {K : Act → World → Prop} {Q : Exit → Act → World → Prop} (sl x : Operand)
    (ho : o.op = .call { callee := .builtin .append, args := #[sl, x], argTypes := #[27, 27] })
    (B : Nat) (v : Value) (l l' : List ByteArray) (hs : a.eval sl = v) (hO : OwnS w B v l) (ad : Addr) (n cap : Nat) (hx : a.eval x = .slice (some ad) n cap) (hn : l'.length = n)
    (hsrc : ∀ (j : Nat) s, l'[j]? = some s → w.cell? (ad.add j) = some (.string s)) (hlen : l.length + n ≤ 1099511627776) (hB : B ≤ w.heap.size)
    (h : ∀ v' w', OwnS w' B v' (l ++ l') → w.grownBy w' v.ownBlock → (v'.ownBlock = v.ownBlock ∨ v'.ownBlock = some w.heap.size) → K (a.put o.dst v') w') : o.wp Tryz.prog a w K Q := by
  subst hn
  obtain ⟨i, h1, h2, h3, h4⟩ := info_parts strInfo
  have hown : w.ownsRow B 9 1 v l.length (l.map Value.string) := by
    have h9 := hO
    unfold OwnS OwnV at h9
    rw [List.length_map] at h9
    exact h9
  obtain ⟨v', w', hrun, h5, h6, _, h7⟩ := run_append_own_at (P := Tryz.prog) w B 27 o.type 9 i (.string ⟨#[]⟩) 1 16 Tryz.underlying27 h1 h2 h3 h4 rfl (by omega) v l.length (l.map Value.string) hown ad l'.length cap (l'.map Value.string) (by rw [Nat.mul_one, List.length_map]) (fun j u hj => by
    rw [List.getElem?_map] at hj
    cases hq : l'[j]? with
    | none => rw [hq] at hj; cases hj
    | some z => rw [hq] at hj; cases hj; exact hsrc j z hq) (fun u hu => by obtain ⟨s, _, rfl⟩ := List.mem_map.1 hu; rfl) (by unfold maxLen; omega) (by omega) hB
  have h5' : OwnS w' B v' (l ++ l') := by
    unfold OwnS OwnV
    rw [List.map_append, List.length_append, List.length_map, List.length_map]
    exact h5
  unfold Oper.wp execOp
  simp only [ho, resolve, invoke, builtin, Sem.run_bind, Sem.run_pure, Result.andThen_ok, List.map_toArray, List.map_cons, List.map_nil, hs, hx, hrun]
  exact h v' w' h5' h6 h7
theorem step_ag {w : World} {ops : Array Oper} {rest : List Oper} {o : Oper} {a : Act} {Q : Exit → Act → World → Prop} (hgd : Region.wanted o (yielded ops a.tmps) = true) (sl x : Operand)
    (ho : o.op = .call { callee := .builtin .append, args := #[sl, x], argTypes := #[27, 27] })
    (B : Nat) (v : Value) (l l' : List ByteArray) (hs : a.eval sl = v) (hO : OwnS w B v l) (ad : Addr) (n cap : Nat) (hx : a.eval x = .slice (some ad) n cap) (hn : l'.length = n)
    (hsrc : ∀ (j : Nat) s, l'[j]? = some s → w.cell? (ad.add j) = some (.string s)) (hlen : l.length + n ≤ 1099511627776) (hB : B ≤ w.heap.size)
    (h : ∀ v' w', OwnS w' B v' (l ++ l') → w.grownBy w' v.ownBlock → (v'.ownBlock = v.ownBlock ∨ v'.ownBlock = some w.heap.size) → wpList Tryz.prog ops Q rest (a.put o.dst v') w') : wpList Tryz.prog ops Q (o :: rest) a w :=
  wpList_wanted hgd fun _ hK => wp_ag sl x ho B v l l' hs hO ad n cap hx hn hsrc hlen hB fun v' w' h1 h2 h3 => hK _ _ (h v' w' h1 h2 h3)
theorem OwnV.same {w w' : World} {B : Nat} {e : TypeId} {v : Value} {xs : List Value} (h : OwnV w B e v xs) (hg : ∀ g, v.ownBlock = some g → w'.heap[g]? = w.heap[g]?) : OwnV w' B e v xs := by
  obtain ⟨h1, h2⟩ := h
  refine ⟨h1, ?_⟩
  rcases h2 with h2 | ⟨g, cap, cur, hv, hg', hh, r⟩
  · exact Or.inl h2
  · exact Or.inr ⟨g, cap, cur, hv, hg', (hg g (by rw [hv]; rfl)).trans hh, r⟩
theorem Its.same {w w' : World} {B : Nat} {A : Option Addr} {l : List Dg.It} (h : Its w B A l) (hg : ∀ g, g < B → w'.heap[g]? = w.heap[g]?) : Its w' B A l :=
  ⟨fun h0 => by
    obtain ⟨b, off, e, hlt, hc⟩ := h.at_ h0
    exact ⟨b, off, e, hlt, fun j x hj i u hu => (World.cell?_of_block (a := ⟨b, off + j * 7 + i, none⟩) (hg b hlt)).trans (hc j x hj i u hu)⟩⟩
/-- The list in the variable at block bo. -/
structure OutAt (bo n0 : Nat) (W : World) (v : Value) (l : List ByteArray) : Prop where
  row : W.heap[bo]? = some (.cells #[v] 27 (0, 0))
  own : OwnS W n0 v l
def outS (bo : Nat) (v : Value) : List Nat := bo :: v.ownBlock.toList
theorem outS_own {bo : Nat} {v : Value} {g : Nat} (h : v.ownBlock = some g) : g ∈ outS bo v := by unfold outS; rw [h]; simp
theorem mem_outS {bo : Nat} {v : Value} {g : Nat} (h : g ∈ outS bo v) : g = bo ∨ v.ownBlock = some g := by
  unfold outS at h
  rcases List.mem_cons.1 h with h | h
  · exact Or.inl h
  · cases hv : v.ownBlock with
    | none => rw [hv] at h; cases h
    | some g' => rw [hv] at h; simp at h; exact Or.inr (by rw [h])
theorem OutAt.same {bo n0 : Nat} {W W' : World} {v : Value} {l : List ByteArray} (h : OutAt bo n0 W v l) (hg : ∀ g ∈ outS bo v, W'.heap[g]? = W.heap[g]?) : OutAt bo n0 W' v l :=
  ⟨(hg bo (List.mem_cons_self ..)).trans h.row, OwnV.same h.own fun g hv => hg g (outS_own hv)⟩
/-- What a visit leaves of the list. -/
def OutStep (bo n0 : Nat) (W W' : World) (v : Value) (l' : List ByteArray) : Prop := ∃ v', OutAt bo n0 W' v' l' ∧ Off (outS bo v) W W' ∧ ∀ g, v'.ownBlock = some g → v.ownBlock = some g ∨ W.heap.size ≤ g
theorem OutStep.none {bo n0 : Nat} {W W' : World} {v : Value} {l : List ByteArray} (h : OutAt bo n0 W v l) (hb : Below W.heap.size W W') : OutStep bo n0 W W' v l :=
  ⟨v, h.same (fun g hg => hb.block g (by
    rcases mem_outS hg with rfl | e
    · exact lt_of_block h.row
    · exact (OwnV.lt h.own e).2)), Off.of_below hb, fun g hg => Or.inl hg⟩
theorem out_visit {l : List Dg.It} {F : Nat} {lb : Array Value} {B0 n0 bo : Nat} (hb0 : B0 ≤ bo) (hbn : bo < n0) (Low : World → Prop) (hLow : ∀ W W', Low W → (∀ g, g < n0 → g ≠ bo → W'.heap[g]? = W.heap[g]?) → Low W') (f : List (List ByteArray) → List ByteArray)
    (en : ∀ args w, (callFunc F args).run Tryz.prog w = .ok (.enter F args) w)
    (hc : ∀ (k : Nat) (W : World) (v : Value) (o : List ByteArray) (A : Option Addr) (c : Nat) (vs : List (List ByteArray)) (s : Dg.Wk), k < l.length → Low W → OutAt bo n0 W v (f vs) → n0 ≤ W.heap.size → Dg.walkTo l (k + 1) = some (vs ++ [o], s) → vs.length = k → Strs W W.heap.size A o → o.length ≤ c →
      Calls Tryz.prog F (#[.int .i64 (k : Int), .slice A o.length c] ++ lb) W fun e W' => e = .returned (.tuple #[]) ∧ OutStep bo n0 W W' v (f (vs ++ [o]))) :
    Visit l F lb B0 n0 (fun k S W => ∃ v vs s, S = outS bo v ∧ OutAt bo n0 W v (f vs) ∧ Dg.walkTo l k = some (vs, s) ∧ Low W) where
  enters := en
  stable := fun k S W W' h hS hb => by
    obtain ⟨v, vs, s, rfl, h1, h2, h3⟩ := h
    exact ⟨v, vs, s, rfl, h1.same hS, h2, hLow W W' h3 fun g hg _ => hb.block g hg⟩
  lt := fun k S W h g hg => by
    obtain ⟨v, vs, s, rfl, h1, h2, h3⟩ := h
    rcases mem_outS hg with rfl | e
    · exact ⟨hb0, lt_of_block h1.row⟩
    · have := OwnV.lt h1.own e
      omega
  call := fun k S W o A c vs s hk h hw hvl hS hoc hn => by
    obtain ⟨v, vs0, s0, rfl, h1, h2, h3⟩ := h
    obtain ⟨vs1, s1, o1, e1, _, e2⟩ := Dg.walk_step hk hw
    rw [h2] at e1
    cases e1
    obtain ⟨rfl, e3⟩ := List.append_inj' e2 rfl
    refine (hc k W v o A c vs s hk h3 h1 hn hw hvl hS hoc).mono ?_
    rintro e W' ⟨rfl, v', h4, h5, h6⟩
    refine ⟨rfl, outS bo v', ⟨v', vs ++ [o], s, rfl, h4, hw, hLow W W' h3 fun g hg hgb => h5.block g (by omega) fun hm => ?_⟩, h5, fun g hg => ?_⟩
    · rcases mem_outS hm with e | e
      · exact hgb e
      · have := (OwnV.lt h1.own e).1
        omega
    · rcases mem_outS hg with rfl | e
      · exact Or.inl (List.mem_cons_self ..)
      · exact (h6 g e).imp outS_own id
end Go.Proofs.YtobhpeockinnjaaGreatDoor
/- Valid and Below of package code. No conditions but those that each theorem states. -/
namespace Go.Proofs.YtobhpeockinnjaaGreatDoor
open Go Go.RowKit Go.Sort Go.Maps
theorem valid1_any (k : Int) (A : Option Addr) (n c : Nat) (w : World) : Calls Tryz.prog 64 #[.int .i64 k, .slice A n c] w fun e w' => e = .returned (.tuple #[]) ∧ w' = w := by
  go_enter Tryz.func64, Tryz.ntmps64
  go_wp2
  go_end0
  exact ⟨rfl, rfl⟩
theorem valid_visit (l : List Dg.It) (B0 n0 : Nat) : Visit l 64 #[] B0 n0 (fun _ S _ => S = []) where
  enters := enters_of Tryz.func64 (by kernel_rfl) rfl
  stable := fun _ _ _ _ h _ _ => h
  lt := fun _ _ _ h g hg => by rw [h] at hg; cases hg
  call := fun k S W o A c vs s _ h _ _ _ _ _ => by
    refine (valid1_any (k : Int) A o.length c W).mono ?_
    rintro e W' ⟨rfl, rfl⟩
    subst h
    exact ⟨rfl, [], rfl, Off.refl _ _, fun g hg => by cases hg⟩
theorem Code.valid_of (l : List Dg.It) (A : Option Addr) (n c : Nat) (hl : l.length = n) (hw : ∀ x ∈ l, ItW x) (hn : n ≤ 1048576) (w : World) (hI : Its w w.heap.size A l) (R : Bool) (hR : Dg.validC l = R) :
    Calls Tryz.prog 31 #[.agg #[.slice A n c]] w fun e w' => e = .returned (.bool R) ∧ Below w.heap.size w w' := by
  have hx := Below.news (Below.refl w.heap.size w) (.cells #[.slice A n c] 24)
  have hcc := iCells0 (heap_alloc_new w (.cells #[.slice A n c] 24))
  have HI := hide hI; have HR := hide hR; have HW := hide hw; have HL := hide hl
  clear hI hR hw hl
  go_enter Tryz.func31, Tryz.ntmps31
  go_wp2_with fail
  generalize w.alloc (.cells #[.slice A n c] 24) = w1 at *
  refine (walk_any l A n c HL.out HW.out hn w.heap.size w1 (HI.out.below hx) hx.size 64 #[] (fun _ S _ => S = []) (valid_visit l _ _) [] rfl R HR.out).mono ?_
  rintro e w2 ⟨rfl, k, S, _, _, ho, _⟩
  have hb := bnext hx ho.nil
  clear hcc
  go_wp2
  go_ret
  exact ⟨rfl, hb⟩
/-- The walk, when its visits write a list. -/
theorem out_walk {F : Nat} {lb : Array Value} (l : List Dg.It) (A : Option Addr) (n c : Nat) (hl : l.length = n) (hw : ∀ x ∈ l, ItW x) (hn : n ≤ 1048576) (B0 bo : Nat) (w : World) (hI : Its w B0 A l) (hB : B0 ≤ bo) (hbo : bo < w.heap.size) (Low : World → Prop) (hLow : ∀ W W', Low W → (∀ g, g < w.heap.size → g ≠ bo → W'.heap[g]? = W.heap[g]?) → Low W') (f : List (List ByteArray) → List ByteArray)
    (en : ∀ args w, (callFunc F args).run Tryz.prog w = .ok (.enter F args) w)
    (hc : ∀ (k : Nat) (W : World) (v : Value) (o : List ByteArray) (A : Option Addr) (c : Nat) (vs : List (List ByteArray)) (s : Dg.Wk), k < l.length → Low W → OutAt bo w.heap.size W v (f vs) → w.heap.size ≤ W.heap.size → Dg.walkTo l (k + 1) = some (vs ++ [o], s) → vs.length = k → Strs W W.heap.size A o → o.length ≤ c →
      Calls Tryz.prog F (#[.int .i64 (k : Int), .slice A o.length c] ++ lb) W fun e W' => e = .returned (.tuple #[]) ∧ OutStep bo w.heap.size W W' v (f (vs ++ [o])))
    (h0 : OutAt bo w.heap.size w (.slice none 0 0) (f [])) (hl0 : Low w) (R : Bool) (hR : Dg.validC l = R) :
    Calls Tryz.prog 63 #[.agg #[.slice A n c], .func (.func F) #[] lb] w fun e w' => e = .returned (.bool R) ∧ ∃ v L, (R = true → L = f (Dg.visits l)) ∧ OutAt bo w.heap.size w' v L ∧ Low w' ∧ Below bo w w' ∧ w.heap.size ≤ w'.heap.size := by
  refine (walk_any l A n c hl hw hn B0 w hI (by omega) F lb _ (out_visit hB hbo Low hLow f en hc) [bo] ⟨.slice none 0 0, [], ⟨[], []⟩, rfl, h0, rfl, hl0⟩ R hR).mono ?_
  rintro e w' ⟨rfl, k, S, hk, ⟨v, vs, s, rfl, h1, h2, h3⟩, ho, _⟩
  refine ⟨rfl, v, f vs, fun hr => ?_, h1, h3, ho.below (by omega) (fun g hg => by rw [List.mem_singleton.1 hg]; exact Nat.le_refl _), ho.size⟩
  have := hk hr
  subst this
  rw [hr] at hR
  obtain ⟨s', h4, _⟩ := Dg.valid_walk hR
  rw [hl] at h4
  rw [h2] at h4
  cases h4
  rfl
/-- The Ids of the items at whose visit an Id is open. -/
def belowF (l : List Dg.It) (id : ByteArray) (vs : List (List ByteArray)) : List ByteArray := ((vs.zip l).filter fun p => Dg.inB p.1 id).map fun p => p.2.id
theorem setCell_row1 {w : World} {g : Nat} {a : Value} {T : TypeId} (h : w.heap[g]? = some (.cells #[a] T (0, 0))) (u : Value) : (w.setCell ⟨g, 0, none⟩ u).heap[g]? = some (.cells #[u] T (0, 0)) := by
  simp only [World.setCell, Array.getElem?_modify, h]
  simp
theorem zip_snoc {α β : Type} (vs : List α) (l : List β) (o : α) (hk : vs.length < l.length) : (vs ++ [o]).zip l = vs.zip l ++ [(o, l[vs.length])] := by
  have e : l = l.take vs.length ++ l[vs.length] :: l.drop (vs.length + 1) := by
    rw [← List.drop_eq_getElem_cons hk, List.take_append_drop]
  have h1 : vs.zip l = vs.zip (l.take vs.length) := by
    conv => lhs; rw [e]
    have h2 : (vs ++ []).zip (l.take vs.length ++ l[vs.length] :: l.drop (vs.length + 1)) = vs.zip (l.take vs.length) ++ [].zip (l[vs.length] :: l.drop (vs.length + 1)) := List.zip_append (by rw [List.length_take]; omega)
    rw [List.append_nil] at h2
    rw [h2]
    simp
  conv => lhs; rw [e]
  rw [List.zip_append (by rw [List.length_take]; omega), h1]
  rfl
theorem belowF_snoc (l : List Dg.It) (id : ByteArray) (vs : List (List ByteArray)) (o : List ByteArray) (hk : vs.length < l.length) : belowF l id (vs ++ [o]) = if Dg.inB o id = true then belowF l id vs ++ [l[vs.length].id] else belowF l id vs := by
  unfold belowF
  rw [zip_snoc vs l o hk, List.filter_append, List.map_append]
  by_cases h : Dg.inB o id = true
  · rw [if_pos h, List.filter_cons_of_pos (by exact h), List.filter_nil]; rfl
  · rw [if_neg h, List.filter_cons_of_neg (by exact h), List.filter_nil, List.map_nil, List.append_nil]
theorem belowF_len (l : List Dg.It) (id : ByteArray) (vs : List (List ByteArray)) : (belowF l id vs).length ≤ l.length := by
  unfold belowF
  rw [List.length_map]
  exact Nat.le_trans (List.length_filter_le _ _) (by rw [List.length_zip]; omega)
end Go.Proofs.YtobhpeockinnjaaGreatDoor
/- Below of package code. No conditions but those that each theorem states. -/
namespace Go.Proofs.YtobhpeockinnjaaGreatDoor
open Go Go.RowKit Go.Sort Go.Maps
theorem iAlloc3 (w : World) (A B C : Obj) : (((w.alloc A).alloc B).alloc C).heap[w.heap.size]? = some A ∧ (((w.alloc A).alloc B).alloc C).heap[w.heap.size + 1]? = some B ∧ (((w.alloc A).alloc B).alloc C).heap[w.heap.size + 1 + 1]? = some C ∧ Below w.heap.size w (((w.alloc A).alloc B).alloc C) ∧ (((w.alloc A).alloc B).alloc C).heap.size = w.heap.size + 3 := by
  have s1 : (w.alloc A).heap.size = w.heap.size + 1 := by simp
  have s2 : ((w.alloc A).alloc B).heap.size = w.heap.size + 1 + 1 := by simp
  have x1 := Below.news (Below.refl w.heap.size w) A
  have x2 := Below.news (Below.refl (w.alloc A).heap.size (w.alloc A)) B
  have x3 := Below.news (Below.refl ((w.alloc A).alloc B).heap.size ((w.alloc A).alloc B)) C
  have r1 := heap_alloc_new w A
  have r2 := heap_alloc_new (w.alloc A) B
  have r3 := heap_alloc_new ((w.alloc A).alloc B) C
  rw [s1] at r2
  rw [s2] at r3
  exact ⟨iNext (iNext r1 x2) x3, iNext r2 x3, r3, bnext (bnext x1 x2) x3, by simp⟩
theorem visits_le (l : List Dg.It) (h : Dg.validC l = true) : (Dg.visits l).length = l.length := by
  obtain ⟨s, h1, _⟩ := Dg.valid_walk h
  exact Dg.walk_len (Nat.le_refl _) h1
/-- What Below hands back. -/
def belowC (l : List Dg.It) (id : ByteArray) : List ByteArray := if Dg.validC l = true then belowF l id (Dg.visits l) else []
theorem op_short {l : List Dg.It} {k : Nat} (hk : k < l.length) {vs : List (List ByteArray)} {o : List ByteArray} {s : Dg.Wk} (h : Dg.walkTo l (k + 1) = some (vs ++ [o], s)) : o.length ≤ k := by
  obtain ⟨vs0, s0, o', h1, h2, h3⟩ := Dg.walk_step hk h
  obtain ⟨_, e⟩ := List.append_inj' h3 rfl
  cases e
  obtain ⟨_, _, j, _, ho, _⟩ := Dg.stepI_some h2
  have := op_len (by omega) h1
  rw [ho, List.length_take]
  omega
end Go.Proofs.YtobhpeockinnjaaGreatDoor
/- joined of package code. No conditions but those that each theorem states. -/
namespace Go.Proofs.YtobhpeockinnjaaGreatDoor
open Go Go.RowKit Go.Sort Go.Maps
theorem L_app (a b : ByteArray) : Dg.L (a ++ b) = Dg.L a ++ Dg.L b := by
  unfold Dg.L
  rw [ByteArray.data_append, Array.toList_append]
theorem B_L (a : ByteArray) : Dg.B (Dg.L a) = a := by
  unfold Dg.B Dg.L
  rfl
theorem jB_snoc (l : List ByteArray) (k : Nat) (h : k < l.length) (hz : l[k].size ≤ 9223372036854775807) : Dg.jB (l.take (k + 1)) = Dg.jB (l.take k) ++ (decB l[k].size ++ ⟨#[58]⟩ ++ l[k]) := by
  unfold Dg.jB
  rw [Dg.joinedL_take l k h]
  conv => rhs; rw [← B_L (Dg.B _ ++ _)]
  rw [L_app, L_app, L_app, L_decB _ hz, Dg.L_B, Dg.len_L]
  congr 2
  rw [List.append_assoc]
  rfl
theorem jB_len (l : List ByteArray) (k : Nat) (hn : l.length ≤ 1048576) (hz : ∀ s ∈ l, s.size ≤ 1073741824) : (Dg.jB (l.take k)).size ≤ 1152921504606846976 := by
  unfold Dg.jB
  rw [Dg.size_B]
  have h1 := Dg.joinedL_len_le (l.take k) 1073741824 (fun s hs => hz s (List.mem_of_mem_take hs))
  have h2 : (l.take k).length ≤ 1048576 := by rw [List.length_take]; omega
  have h3 : (l.take k).length * (1073741824 + 21) ≤ 1048576 * (1073741824 + 21) := Nat.mul_le_mul_right _ h2
  omega
set_option maxHeartbeats 4000000 in
theorem Code.joined_of (A : Option Addr) (n c : Nat) (l : List ByteArray) (hl : l.length = n) (hn : n ≤ 1048576) (hz : ∀ s ∈ l, s.size ≤ 1073741824) (w : World) (he : Env w) (hS : Strs w w.heap.size A l) (J : ByteArray) (hJ : Dg.jB l = J) :
    Calls Tryz.prog 66 #[.slice A n c] w fun e w' => e = .returned (.string J) ∧ Below w.heap.size w w' := by
  have HL := hide hl; have HZ := hide hz; have HJ := hide hJ
  clear hl hz hJ
  go_enter Tryz.func66, Tryz.ntmps66
  go_wp2
  go_loopw [3, 8] (fun ov iv wr => ∃ k : Nat, k ≤ n ∧ iv = .int .i64 (k : Int) ∧ ov = .string (Dg.jB (l.take k)) ∧ Below w.heap.size w wr) (fun _ iv _ => n - (intOf iv).toNat)
  case atStart => exact ⟨0, by omega, rfl, rfl, Below.refl _ _⟩
  case round =>
    obtain ⟨k, hk, rfl, rfl, hb⟩ := hrel
    by_cases hlt : k < n
    · have hkl : k < l.length := by rw [HL.out]; exact hlt
      obtain ⟨b, off, rfl, hbl, hcell⟩ := (hS.below hb).get hkl
      have hxz := HZ.out l[k] (List.getElem_mem hkl)
      have hts := hide (jB_snoc l k hkl (by omega))
      have hpz := jB_len l k (by rw [HL.out]; exact hn) HZ.out
      generalize l[k] = x at *
      go_wp2_with fail
      refine (itoa_any _ x.size rfl (by omega) _ (he.next hb)).mono ?_
      rintro e w2 ⟨rfl, hb2⟩
      have hb3 := bnext hb hb2
      obtain ⟨P, hP⟩ : ∃ P, Dg.jB (l.take k) = P := ⟨_, rfl⟩
      rw [hP]
      rw [hP] at hts hpz
      have HP := hide hP
      clear hP hcell
      obtain ⟨D, hD⟩ : ∃ D, decB x.size = D := ⟨_, rfl⟩
      have hdz : D.size ≤ 20 := by rw [← hD]; exact decB_size _ (by omega)
      rw [hD] at hts
      rw [hD]
      have HD := hide hD
      clear hD
      go_wp2
      go_roundw
      case rel => exact ⟨k + 1, by omega, by go_num, by rw [hts.out], hb3⟩
      case measure => simp [intOf]; omega
    · obtain rfl : k = n := by omega
      have hJ2 : Dg.jB (l.take k) = J := by rw [← HL.out, List.take_length]; exact HJ.out
      rw [hJ2]
      clear hJ2
      go_wp2
      go_ret
      exact ⟨rfl, hb⟩
end Go.Proofs.YtobhpeockinnjaaGreatDoor
/- Beginnings of codes, codes without a number or a repealed article, fields and leaves, in plain Lean. No program in sight. -/
namespace Go.Proofs.YtobhpeockinnjaaGreatDoor.Dg
open Go
/-! Beginnings. -/
theorem walk_take (l : List It) (k : Nat) (hk : k ≤ l.length) : ∀ j ≤ k, walkTo (l.take k) j = walkTo l j
  | 0, _ => rfl
  | j + 1, hj => by
    rw [walkTo_succ _ _ (by rw [List.length_take]; omega), walkTo_succ _ _ (by omega), walk_take l k hk j (by omega), List.getElem_take]
theorem valid_take {l : List It} (h : validC l = true) (k : Nat) (hk : k ≤ l.length) : validC (l.take k) = true := by
  obtain ⟨s, hw, hl⟩ := valid_walk h
  obtain ⟨s0, h0⟩ := walk_le (Nat.le_refl _) hw k hk
  have hlen : (l.take k).length = k := by rw [List.length_take]; omega
  unfold validC
  rw [hlen, walk_take l k hk k (Nat.le_refl _), h0, decide_eq_true (by omega)]
  rfl
/-! Walks that differ in nothing that counts. -/
/-- The same name, parent and kind, and proper as the other. -/
def likeI (x y : It) : Prop := x.id = y.id ∧ x.parent = y.parent ∧ x.kind = y.kind ∧ (properI x = true → properI y = true)
theorem step_like {s : Wk} {x y : It} (h : likeI x y) {q : List ByteArray × Wk} (hs : stepI s x = some q) : stepI s y = some q := by
  obtain ⟨h1, h2, h3, h4⟩ := h
  unfold stepI at hs ⊢
  split at hs
  · rename_i hp
    rw [if_pos ⟨h4 hp.1, by rw [← h1]; exact hp.2⟩, ← h2, ← h1, ← h3]
    exact hs
  · cases hs
theorem walk_like (l m : List It) (hl : l.length = m.length) (h : ∀ k (h1 : k < l.length) (h2 : k < m.length), likeI l[k] m[k]) : ∀ k ≤ l.length, ∀ q, walkTo l k = some q → walkTo m k = some q
  | 0, _, q, hq => hq
  | k + 1, hk, q, hq => by
    have hk1 : k < l.length := by omega
    have hk2 : k < m.length := by omega
    rw [walkTo_succ _ _ hk1] at hq
    rw [walkTo_succ _ _ hk2]
    cases hw : walkTo l k with
    | none => rw [hw] at hq; cases hq
    | some p =>
      obtain ⟨vs, s⟩ := p
      rw [hw] at hq
      rw [walk_like l m hl h k (by omega) _ hw]
      simp only at hq ⊢
      cases hs : stepI s l[k] with
      | none => rw [hs] at hq; cases hq
      | some r => rw [hs] at hq; rw [step_like (h k hk1 hk2) hs]; exact hq
theorem valid_like {l m : List It} (hl : l.length = m.length) (h : ∀ k (h1 : k < l.length) (h2 : k < m.length), likeI l[k] m[k]) (hv : validC l = true) : validC m = true := by
  obtain ⟨s, hw, hn⟩ := valid_walk hv
  have := walk_like l m hl h l.length (Nat.le_refl _) _ hw
  unfold validC
  rw [← hl, this, decide_eq_true hn]
  rfl
/-- An item without its number. -/
def bareI (x : It) : It := { x with number := nil8 }
theorem bare_like (x : It) : likeI x (bareI x) := by
  refine ⟨rfl, rfl, rfl, fun h => ?_⟩
  unfold properI at h ⊢
  have hn : isNumB nil8 = true := by decide
  show (if x.kind = 1 then isNumB nil8 && _ else if x.kind = 2 then isNumB nil8 && _ else false) = true
  rw [hn]
  split at h
  · rename_i h1
    rw [if_pos h1]
    rw [Bool.and_eq_true] at h
    rw [Bool.true_and]; exact h.2
  · rename_i h1
    rw [if_neg h1]
    split at h
    · rename_i h2
      rw [if_pos h2]
      rw [Bool.and_eq_true] at h
      rw [Bool.true_and]; exact h.2
    · cases h
theorem like_refl (x : It) : likeI x x := ⟨rfl, rfl, rfl, id⟩
theorem valid_bare {l : List It} (h : validC l = true) (i : Nat) (hi : i < l.length) : validC (l.set i (bareI l[i])) = true :=
  valid_like (by rw [List.length_set]) (fun k h1 h2 => by
    by_cases e : i = k
    · subst e
      rw [List.getElem_set_self]
      exact bare_like _
    · rw [List.getElem_set_ne e]
      exact like_refl _) h
/-! Without an article. -/
/-- The state behind an article that is left out: more may be open, nothing is missing but its name. -/
def lessW (s t : Wk) (d : ByteArray) : Prop := (∃ r, t.op = s.op ++ r) ∧ (∀ x, x ∈ t.seen → x ∈ s.seen) ∧ d ∈ s.seen
theorem kOf_append {a r : List ByteArray} {p : ByteArray} {k : Nat} (h : kOf a p = some k) : kOf (a ++ r) p = some k ∧ (a ++ r).take k = a.take k := by
  unfold kOf at h ⊢
  split at h
  · rename_i hp
    injection h with h
    subst h
    rw [if_pos hp]
    exact ⟨rfl, rfl⟩
  · rename_i hp
    rw [if_neg hp]
    split at h
    · rename_i hin
      injection h with h
      have hm := (inB_iff _ _).1 hin
      have hf : (a.findIdx fun d => decide (d = p)) < a.length := List.findIdx_lt_length_of_exists ⟨_, hm, decide_eq_true rfl⟩
      rw [if_pos ((inB_iff _ _).2 (List.mem_append_left _ hm))]
      have e : (a ++ r).findIdx (fun d => decide (d = p)) = a.findIdx fun d => decide (d = p) := by rw [List.findIdx_append, if_pos hf]
      rw [e, h]
      exact ⟨rfl, List.take_append_of_le_length (by omega)⟩
    · cases h
theorem step_less {s t : Wk} {d : ByteArray} (h : lessW s t d) {x : It} {o : List ByteArray} {s' : Wk} (hs : stepI s x = some (o, s')) : ∃ t', stepI t x = some (o, t') ∧ lessW s' t' d ∧ t'.op = s'.op := by
  obtain ⟨⟨r, h1⟩, h2, h3⟩ := h
  obtain ⟨a1, a2, k, a3, a4, a5, a6⟩ := stepI_some hs
  obtain ⟨b1, b2⟩ := kOf_append (r := r) a3
  have hn : inB t.seen x.id = false := (inB_no _ _).2 fun hm => a2 (h2 _ hm)
  refine ⟨⟨x.id :: t.seen, if x.kind = 1 then t.op.take k ++ [x.id] else t.op.take k⟩, ?_, ⟨⟨[], ?_⟩, fun y hy => ?_, ?_⟩, ?_⟩
  · unfold stepI
    rw [if_pos ⟨a1, hn⟩, h1, b1]
    simp only
    rw [b2, ← a4]
  · rw [a6, h1, b2, ← a4, List.append_nil]
  · rw [a5]
    rcases List.mem_cons.1 hy with rfl | hy
    · exact List.mem_cons_self ..
    · exact List.mem_cons_of_mem _ (h2 _ hy)
  · rw [a5]; exact List.mem_cons_of_mem _ h3
  · rw [a6, h1, b2, ← a4]
theorem erase_lt (l : List It) (i k : Nat) (hk : k < i) (h1 : k < (l.eraseIdx i).length) (h2 : k < l.length) : (l.eraseIdx i)[k] = l[k] := by rw [List.getElem_eraseIdx, dif_pos hk]
theorem erase_ge (l : List It) (i k : Nat) (hk : i ≤ k) (h1 : k < (l.eraseIdx i).length) (h2 : k + 1 < l.length) : (l.eraseIdx i)[k] = l[k + 1] := by rw [List.getElem_eraseIdx, dif_neg (by omega)]
theorem walk_erase {l : List It} {i : Nat} (hi : i < l.length) (ha : l[i].kind ≠ 1) : ∀ k, i ≤ k → k + 1 ≤ l.length → ∀ vs s, walkTo l (k + 1) = some (vs, s) → ∃ t, walkTo (l.eraseIdx i) k = some (vs.eraseIdx i, t) ∧ lessW s t l[i].id := by
  have hlen : (l.eraseIdx i).length + 1 = l.length := by rw [List.length_eraseIdx, if_pos hi]; omega
  have hpre : ∀ j ≤ i, walkTo (l.eraseIdx i) j = walkTo l j := by
    intro j
    induction j with
    | zero => intro _; rfl
    | succ j ih =>
      intro hj
      rw [walkTo_succ _ _ (by omega), walkTo_succ _ _ (by omega), ih (by omega), erase_lt l i j (by omega) (by omega) (by omega)]
  intro k
  induction k with
  | zero =>
    intro h0 hk vs s h
    obtain rfl : i = 0 := by omega
    obtain ⟨vs0, s0, o, w0, st, rfl⟩ := walk_step hi h
    cases w0
    obtain ⟨_, _, j, _, a4, a5, a6⟩ := stepI_some st
    refine ⟨⟨[], []⟩, rfl, ⟨[], ?_⟩, by simp, by rw [a5]; exact List.mem_cons_self ..⟩
    rw [a6, if_neg ha, a4]; simp
  | succ k ih =>
    intro h0 hk vs s h
    by_cases e : i = k + 1
    · subst e
      obtain ⟨vs0, s0, o, w0, st, rfl⟩ := walk_step hi h
      have hl0 := walk_len (by omega) w0
      obtain ⟨_, _, j, _, a4, a5, a6⟩ := stepI_some st
      refine ⟨s0, ?_, ⟨s0.op.drop j, ?_⟩, fun x hx => by rw [a5]; exact List.mem_cons_of_mem _ hx, by rw [a5]; exact List.mem_cons_self ..⟩
      · rw [hpre _ (Nat.le_refl _), w0, List.eraseIdx_append_of_length_le (by omega), hl0]
        simp
      · rw [a6, if_neg ha, a4, List.take_append_drop]
    · obtain ⟨vs0, s0, o, w0, st, rfl⟩ := walk_step (l := l) (k := k + 1) (by omega) h
      have hl0 := walk_len (by omega) w0
      obtain ⟨t, h1, h2⟩ := ih (by omega) (by omega) vs0 s0 w0
      obtain ⟨t', h3, h4, _⟩ := step_less h2 st
      refine ⟨t', ?_, h4⟩
      rw [walkTo_succ _ _ (by omega), h1, erase_ge l i k (by omega) (by omega) (by omega)]
      simp only
      rw [h3, List.eraseIdx_append_of_lt_length (by omega)]
theorem valid_erase {l : List It} (h : validC l = true) (i : Nat) (hi : i < l.length) (ha : l[i].kind ≠ 1) : validC (l.eraseIdx i) = true := by
  obtain ⟨s, hw, hl⟩ := valid_walk h
  obtain ⟨n, hn⟩ : ∃ n, l.length = n + 1 := ⟨l.length - 1, by omega⟩
  rw [hn] at hw
  obtain ⟨t, ht, _⟩ := walk_erase hi ha n (by omega) (by omega) _ _ hw
  have hlen : (l.eraseIdx i).length = n := by rw [List.length_eraseIdx, if_pos hi]; omega
  unfold validC
  rw [hlen, ht, decide_eq_true (by omega)]
  rfl
/-! Leaves and fields. -/
def sD : ByteArray := ⟨#[100]⟩
def sA : ByteArray := ⟨#[97]⟩
def sG : ByteArray := ⟨#[103]⟩
def leafI (x : It) : ByteArray := jB [if x.kind = 1 then sD else sA, x.id, x.parent, x.north, x.south]
def leavesOf (l : List It) : List ByteArray := (l.filter fun x => !x.gone).map leafI
def leavesC (l : List It) : List ByteArray := if validC l then leavesOf l else []
theorem leaves_bare (l : List It) (i : Nat) (hi : i < l.length) : leavesOf (l.set i (bareI l[i])) = leavesOf l := by
  unfold leavesOf
  have key : ∀ (m : List It) (j : Nat) (hj : j < m.length), ((m.set j (bareI m[j])).filter fun x => !x.gone).map leafI = (m.filter fun x => !x.gone).map leafI := by
    intro m
    induction m with
    | nil => intro j hj; simp at hj
    | cons a m ih =>
      intro j hj
      cases j with
      | zero =>
        show ((bareI a :: m).filter fun x => !x.gone).map leafI = _
        rw [List.filter_cons, List.filter_cons]
        show (if (!a.gone) = true then _ else _ : List It).map leafI = _
        cases a.gone <;> rfl
      | succ j =>
        have hj' : j < m.length := by simpa using hj
        show ((a :: m.set j (bareI (m[j]'hj'))).filter fun x => !x.gone).map leafI = _
        rw [List.filter_cons, List.filter_cons]
        have := ih j hj'
        cases a.gone
        · simp only [Bool.not_false, if_true, List.map_cons, this]
        · simpa using this
  exact key l i hi
theorem leaves_erase (l : List It) (i : Nat) (hi : i < l.length) (hg : l[i].gone = true) : leavesOf (l.eraseIdx i) = leavesOf l := by
  unfold leavesOf
  have key : ∀ (m : List It) (j : Nat) (hj : j < m.length), m[j].gone = true → (m.eraseIdx j).filter (fun x => !x.gone) = m.filter fun x => !x.gone := by
    intro m
    induction m with
    | nil => intro j hj; simp at hj
    | cons a m ih =>
      intro j hj hgj
      cases j with
      | zero =>
        have : a.gone = true := hgj
        rw [List.eraseIdx_cons_zero, List.filter_cons, this]
        rfl
      | succ j =>
        rw [List.eraseIdx_cons_succ, List.filter_cons, List.filter_cons, ih j (by simpa using hj) hgj]
  rw [key l i hi hg]
theorem leaves_take (l : List It) (k : Nat) : (leavesOf l).take (leavesOf (l.take k)).length = leavesOf (l.take k) := by
  have h : leavesOf l = leavesOf (l.take k) ++ leavesOf (l.drop k) := by
    unfold leavesOf
    rw [← List.map_append, ← List.filter_append, List.take_append_drop]
  rw [h, List.take_left]
end Go.Proofs.YtobhpeockinnjaaGreatDoor.Dg
/- Digests of codes, in plain Lean: the joined fields tell valid codes apart. No program in sight. -/
namespace Go.Proofs.YtobhpeockinnjaaGreatDoor.Dg
open Go
def kindW (x : It) : ByteArray := if x.kind = 1 then sD else if x.gone then sG else sA
def fieldsI (x : It) : List ByteArray := [kindW x, x.id, x.parent, x.number, x.north, x.south]
def fieldsC (l : List It) : List ByteArray := l.flatMap fieldsI
def digestC (l : List It) : ByteArray := if validC l then listB (fieldsC l) else nil8
theorem digest_valid (l : List It) : isB (digestC l) = validC l := by
  unfold digestC
  cases validC l with
  | true => rw [if_pos rfl]; exact isB_listB _
  | false => rw [if_neg (by decide)]; decide
theorem valid_proper {l : List It} (h : validC l = true) : ∀ x ∈ l, properI x = true := fun x hx => by
  obtain ⟨s, hw, _⟩ := valid_walk h
  obtain ⟨k, hk, rfl⟩ := List.mem_iff_getElem.1 hx
  obtain ⟨_, _, _, _, _, hp⟩ := visit_at (Nat.le_refl _) hw hk
  exact hp
theorem proper_kind {x : It} (h : properI x = true) : (x.kind = 1 ∧ x.gone = false ∧ x.north = nil8 ∧ x.south = nil8) ∨ (x.kind = 2 ∧ x.north.size ≤ 400 ∧ x.south.size ≤ 400) := by
  unfold properI at h
  split at h
  · rename_i h1
    simp only [Bool.and_eq_true, decide_eq_true_eq, Bool.not_eq_true'] at h
    exact Or.inl ⟨h1, h.2.2.2.2, h.2.2.1, h.2.2.2.1⟩
  · split at h
    · rename_i h2
      simp only [Bool.and_eq_true, decide_eq_true_eq] at h
      exact Or.inr ⟨h2, h.2.2.1, h.2.2.2⟩
    · cases h
theorem kindW_inj {x y : It} (hx : properI x = true) (hy : properI y = true) (h : kindW x = kindW y) : x.kind = y.kind ∧ x.gone = y.gone := by
  unfold kindW at h
  have n1 : sD ≠ sA := by decide
  have n2 : sD ≠ sG := by decide
  have n3 : sG ≠ sA := by decide
  rcases proper_kind hx with ⟨a1, a2, _⟩ | ⟨a1, _⟩ <;> rcases proper_kind hy with ⟨b1, b2, _⟩ | ⟨b1, _⟩
  · exact ⟨by rw [a1, b1], by rw [a2, b2]⟩
  · rw [a1, b1, if_pos rfl, if_neg (by decide)] at h
    cases hg : y.gone with
    | true => rw [hg, if_pos rfl] at h; exact absurd h n2
    | false => rw [hg, if_neg (by decide)] at h; exact absurd h n1
  · rw [a1, b1, if_pos rfl, if_neg (by decide)] at h
    cases hg : x.gone with
    | true => rw [hg, if_pos rfl] at h; exact absurd h.symm n2
    | false => rw [hg, if_neg (by decide)] at h; exact absurd h.symm n1
  · have e : (if x.gone = true then sG else sA) = (if y.gone = true then sG else sA) := by
      have n4 : ¬ (2 : Int) = 1 := by decide
      rw [a1, b1, if_neg n4, if_neg n4] at h
      exact h
    refine ⟨by rw [a1, b1], ?_⟩
    cases hg : x.gone with
    | true =>
      cases hg2 : y.gone with
      | true => rfl
      | false => rw [hg, hg2] at e; exact absurd e n3
    | false =>
      cases hg2 : y.gone with
      | true => rw [hg, hg2] at e; exact absurd e.symm n3
      | false => rfl
theorem fieldsI_inj {x y : It} (hx : properI x = true) (hy : properI y = true) (h : fieldsI x = fieldsI y) : x = y := by
  unfold fieldsI at h
  simp only [List.cons.injEq, and_true] at h
  obtain ⟨h1, h2, h3, h4, h5, h6⟩ := h
  obtain ⟨k1, k2⟩ := kindW_inj hx hy h1
  obtain ⟨a1, a2, a3, a4, a5, a6, a7⟩ := x
  obtain ⟨b1, b2, b3, b4, b5, b6, b7⟩ := y
  simp only at k1 k2 h2 h3 h4 h5 h6
  subst k1 k2 h2 h3 h4 h5 h6
  rfl
theorem fieldsC_inj : ∀ (l m : List It), (∀ x ∈ l, properI x = true) → (∀ x ∈ m, properI x = true) → fieldsC l = fieldsC m → l = m
  | [], [], _, _, _ => rfl
  | [], b :: m, _, _, h => by simp [fieldsC, fieldsI] at h
  | a :: l, [], _, _, h => by simp [fieldsC, fieldsI] at h
  | a :: l, b :: m, hl, hm, h => by
    have h' : fieldsI a ++ fieldsC l = fieldsI b ++ fieldsC m := by unfold fieldsC at h ⊢; rw [List.flatMap_cons, List.flatMap_cons] at h; exact h
    obtain ⟨h1, h2⟩ := List.append_inj h' rfl
    rw [fieldsI_inj (hl a (List.mem_cons_self ..)) (hm b (List.mem_cons_self ..)) h1, fieldsC_inj l m (fun x hx => hl x (List.mem_cons_of_mem _ hx)) (fun x hx => hm x (List.mem_cons_of_mem _ hx)) h2]
/-- Different valid codes with one digest show two texts with one digest. -/
theorem digest_binds {l m : List It} (hl : validC l = true) (hm : validC m = true) (zl : ∀ x ∈ fieldsC l, x.size ≤ 1099511627776) (zm : ∀ x ∈ fieldsC m, x.size ≤ 1099511627776) (hne : l ≠ m) (h : digestC l = digestC m) : jB (fieldsC l) ≠ jB (fieldsC m) ∧ sumB (jB (fieldsC l)) = sumB (jB (fieldsC m)) := by
  refine ⟨fun e => hne ?_, ?_⟩
  · exact fieldsC_inj l m (valid_proper hl) (valid_proper hm) ((joinedL_eq _ _ zl zm).1 e)
  · rw [sumB_jB, sumB_jB]
    unfold digestC at h
    rw [if_pos hl, if_pos hm] at h
    exact h
/-- As many leaves as items that are not gone. -/
theorem leaves_len (l : List It) : (leavesOf l).length = l.countP fun x => !x.gone := by
  unfold leavesOf
  rw [List.length_map, List.countP_eq_length_filter]
end Go.Proofs.YtobhpeockinnjaaGreatDoor.Dg
/- Digest of package code. No conditions but those that each theorem states. -/
namespace Go.Proofs.YtobhpeockinnjaaGreatDoor
open Go Go.RowKit Go.Sort Go.Maps
/-- Behind an append to the list and before it is stored. -/
theorem out_row {bo n0 : Nat} {W u7 u8 : World} {v : Value} {L : List ByteArray} (hO : OutAt bo n0 W v L) (hbo : bo < n0) (hn0 : n0 ≤ W.heap.size) (hx : Below W.heap.size W u7) (hg : u7.grownBy u8 v.ownBlock) : u8.heap[bo]? = some (.cells #[v] 27 (0, 0)) ∧ ∀ g, g < n0 → u8.heap[g]? = W.heap[g]? := by
  have key : ∀ g, g < n0 → u8.heap[g]? = W.heap[g]? := fun g h => (hg.block g (Nat.lt_of_lt_of_le h (Nat.le_trans hn0 hx.size)) (fun e => by have := (OwnV.lt hO.own e.symm).1; omega)).trans (hx.block g (by omega))
  exact ⟨(key bo hbo).trans hO.row, key⟩
theorem out_done {bo n0 : Nat} {W u7 u8 : World} {v v8 : Value} {L X : List ByteArray} (hO : OutAt bo n0 W v L) (hbo : bo < n0) (hn0 : n0 ≤ W.heap.size) (hx : Below W.heap.size W u7) (hg : u7.grownBy u8 v.ownBlock) (hO8 : OwnS u8 n0 v8 (L ++ X)) (hat : v8.ownBlock = v.ownBlock ∨ v8.ownBlock = some u7.heap.size) : OutStep bo n0 W (u8.setCell ⟨bo, 0, none⟩ v8) v (L ++ X) := by
  refine ⟨v8, ⟨setCell_row1 (out_row hO hbo hn0 hx hg).1 v8, OwnV.same hO8 (fun g hg => Below.heap_setCell _ _ _ _ (by show g ≠ bo; have := (OwnV.lt hO8 hg).1; omega))⟩, ?_, fun g hg' => ?_⟩
  · exact ((Off.of_below (S := outS bo v) hx).trans (Off.of_grown (S := outS bo v) hg (fun g hg => outS_own hg)) (fun _ h => Or.inl h)).setCell (p := ⟨bo, 0, none⟩) (List.mem_cons_self ..) _
  · rcases hat with e | e
    · exact Or.inl (e.symm.trans hg')
    · rw [e] at hg'
      cases hg'
      exact Or.inr hx.size
theorem Its.cells {w : World} {B b off : Nat} {l : List Dg.It} (h : Its w B (some ⟨b, off, none⟩) l) {k : Nat} (hk : k < l.length) (x : Dg.It) (hx : l[k] = x) : b < B ∧ w.cell? ⟨b, off + k * 7, none⟩ = some (.int .i64 x.kind) ∧ w.cell? ⟨b, off + k * 7 + 1, none⟩ = some (.string x.id) ∧ w.cell? ⟨b, off + k * 7 + 2, none⟩ = some (.string x.parent) ∧ w.cell? ⟨b, off + k * 7 + 3, none⟩ = some (.string x.number) ∧
    w.cell? ⟨b, off + k * 7 + 4, none⟩ = some (.string x.north) ∧ w.cell? ⟨b, off + k * 7 + 5, none⟩ = some (.string x.south) ∧ w.cell? ⟨b, off + k * 7 + 6, none⟩ = some (.bool x.gone) := by
  obtain ⟨b', off', e, hb, hc⟩ := h.get hk
  cases e
  rw [hx] at hc
  exact ⟨hb, hc 0 _ rfl, hc 1 _ rfl, hc 2 _ rfl, hc 3 _ rfl, hc 4 _ rfl, hc 5 _ rfl, hc 6 _ rfl⟩
theorem Its.some {w : World} {B : Nat} {A : Option Addr} {l : List Dg.It} (h : Its w B A l) {k : Nat} (hk : k < l.length) : ∃ b off, A = some ⟨b, off, none⟩ := by
  obtain ⟨b, off, e, _⟩ := h.get hk
  exact ⟨b, off, e⟩
end Go.Proofs.YtobhpeockinnjaaGreatDoor
/- Digest of package code, the whole. No conditions but those that each theorem states. -/
namespace Go.Proofs.YtobhpeockinnjaaGreatDoor
open Go Go.RowKit Go.Sort Go.Maps
theorem iAlloc2 (w : World) (A B : Obj) : ((w.alloc A).alloc B).heap[w.heap.size]? = some A ∧ ((w.alloc A).alloc B).heap[w.heap.size + 1]? = some B ∧ Below w.heap.size w ((w.alloc A).alloc B) ∧ ((w.alloc A).alloc B).heap.size = w.heap.size + 2 := by
  have s1 : (w.alloc A).heap.size = w.heap.size + 1 := by simp
  have x1 := Below.news (Below.refl w.heap.size w) A
  have x2 := Below.news (Below.refl (w.alloc A).heap.size (w.alloc A)) B
  have r1 := heap_alloc_new w A
  have r2 := heap_alloc_new (w.alloc A) B
  rw [s1] at r2
  exact ⟨iNext r1 x2, r2, bnext x1 x2, by simp⟩
theorem fieldsC_snoc (l : List Dg.It) (k : Nat) (hk : k < l.length) : Dg.fieldsC (l.take (k + 1)) = Dg.fieldsC (l.take k) ++ Dg.fieldsI l[k] := by
  unfold Dg.fieldsC
  rw [List.take_succ_eq_append_getElem hk, List.flatMap_append]
  simp
theorem fieldsC_len (l : List Dg.It) : (Dg.fieldsC l).length = 6 * l.length := by
  unfold Dg.fieldsC
  induction l with
  | nil => rfl
  | cons x l ih => rw [List.flatMap_cons, List.length_append, ih, List.length_cons]; show 6 + _ = _; omega
end Go.Proofs.YtobhpeockinnjaaGreatDoor
/- Under of package code. No conditions but those that each theorem states. -/
namespace Go.Proofs.YtobhpeockinnjaaGreatDoor
open Go Go.RowKit Go.Sort Go.Maps
/-- The walk, when its visits write one variable. -/
theorem flag_walk {F : Nat} {lb : Array Value} (l : List Dg.It) (A : Option Addr) (n c : Nat) (hl : l.length = n) (hw : ∀ x ∈ l, ItW x) (hn : n ≤ 1048576) (B0 bo : Nat) (w : World) (hI : Its w B0 A l) (hB : B0 ≤ bo) (hbo : bo < w.heap.size) (Low : World → Prop) (hLow : ∀ W W', Low W → (∀ g, g < w.heap.size → g ≠ bo → W'.heap[g]? = W.heap[g]?) → Low W') (f : List (List ByteArray) → Bool)
    (en : ∀ args w, (callFunc F args).run Tryz.prog w = .ok (.enter F args) w)
    (hc : ∀ (k : Nat) (W : World) (o : List ByteArray) (A : Option Addr) (c : Nat) (vs : List (List ByteArray)) (s : Dg.Wk), k < l.length → Low W → W.heap[bo]? = some (.cells #[.bool (f vs)] 4 (0, 0)) → w.heap.size ≤ W.heap.size → Dg.walkTo l (k + 1) = some (vs ++ [o], s) → vs.length = k → Strs W W.heap.size A o → o.length ≤ c →
      Calls Tryz.prog F (#[.int .i64 (k : Int), .slice A o.length c] ++ lb) W fun e W' => e = .returned (.tuple #[]) ∧ W'.heap[bo]? = some (.cells #[.bool (f (vs ++ [o]))] 4 (0, 0)) ∧ Off [bo] W W')
    (h0 : w.heap[bo]? = some (.cells #[.bool (f [])] 4 (0, 0))) (hl0 : Low w) (R : Bool) (hR : Dg.validC l = R) :
    Calls Tryz.prog 63 #[.agg #[.slice A n c], .func (.func F) #[] lb] w fun e w' => e = .returned (.bool R) ∧ ∃ b, (R = true → b = f (Dg.visits l)) ∧ w'.heap[bo]? = some (.cells #[.bool b] 4 (0, 0)) ∧ Low w' ∧ Below bo w w' := by
  have hv : Visit l F lb B0 w.heap.size (fun k S W => S = [bo] ∧ ∃ vs s, W.heap[bo]? = some (.cells #[.bool (f vs)] 4 (0, 0)) ∧ Dg.walkTo l k = some (vs, s) ∧ Low W) := {
    enters := en
    stable := fun k S W W' h hS hb => by
      obtain ⟨rfl, vs, s, h1, h2, h3⟩ := h
      exact ⟨rfl, vs, s, (hS bo (List.mem_singleton.2 rfl)).trans h1, h2, hLow W W' h3 fun g hg _ => hb.block g hg⟩
    lt := fun k S W h g hg => by
      obtain ⟨rfl, vs, s, h1, h2, h3⟩ := h
      rw [List.mem_singleton.1 hg]
      exact ⟨hB, lt_of_block h1⟩
    call := fun k S W o A c vs s hk h hw hvl hS hoc hn => by
      obtain ⟨rfl, vs0, s0, h1, h2, h3⟩ := h
      obtain ⟨vs1, s1, o1, e1, _, e2⟩ := Dg.walk_step hk hw
      rw [h2] at e1
      cases e1
      obtain ⟨rfl, e3⟩ := List.append_inj' e2 rfl
      refine (hc k W o A c vs s hk h3 h1 hn hw hvl hS hoc).mono ?_
      rintro e W' ⟨rfl, h4, h5⟩
      exact ⟨rfl, [bo], ⟨rfl, vs ++ [o], s, h4, hw, hLow W W' h3 fun g hg hgb => h5.block g (by omega) fun hm => hgb (List.mem_singleton.1 hm)⟩, h5, fun g hg => Or.inl hg⟩ }
  refine (walk_any l A n c hl hw hn B0 w hI (by omega) F lb _ hv [bo] ⟨rfl, [], ⟨[], []⟩, h0, rfl, hl0⟩ R hR).mono ?_
  rintro e w' ⟨rfl, k, S, hk, ⟨rfl, vs, s, h1, h2, h3⟩, ho, _⟩
  refine ⟨rfl, f vs, fun hr => ?_, h1, h3, ho.below (by omega) (fun g hg => by rw [List.mem_singleton.1 hg]; exact Nat.le_refl _)⟩
  have := hk hr
  subst this
  rw [hr] at hR
  obtain ⟨s', h4, _⟩ := Dg.valid_walk hR
  rw [hl] at h4
  rw [h2] at h4
  cases h4
  rfl
/-- Whether an item with an Id stood under a division, when it was visited last. -/
def underF (l : List Dg.It) (id dv : ByteArray) (vs : List (List ByteArray)) : Bool := (vs.zip l).foldl (fun b p => if p.2.id = id then (decide (dv = Dg.nil8) || Dg.inB p.1 dv) else b) false
theorem underF_snoc (l : List Dg.It) (id dv : ByteArray) (vs : List (List ByteArray)) (o : List ByteArray) (hk : vs.length < l.length) : underF l id dv (vs ++ [o]) = if l[vs.length].id = id then (decide (dv = Dg.nil8) || Dg.inB o dv) else underF l id dv vs := by
  unfold underF
  rw [zip_snoc vs l o hk, List.foldl_append]
  rfl
/-- What Under says. -/
def underC (l : List Dg.It) (id dv : ByteArray) : Bool := Dg.validC l && underF l id dv (Dg.visits l)
theorem tl_yes {a b : ByteArray} (h : a = b) : (a.toList == b.toList) = true := (Lib.bytes_beq_iff a b).2 h
theorem tl_no {a b : ByteArray} (h : a ≠ b) : (a.toList == b.toList) = false := (Lib.bytes_beq_false_iff a b).2 h
end Go.Proofs.YtobhpeockinnjaaGreatDoor
/- Under and Find of package code. No conditions but those that each theorem states. -/
namespace Go.Proofs.YtobhpeockinnjaaGreatDoor
open Go Go.RowKit Go.Sort Go.Maps
theorem iAlloc4 (w : World) (A B C D : Obj) : ((((w.alloc A).alloc B).alloc C).alloc D).heap[w.heap.size]? = some A ∧ ((((w.alloc A).alloc B).alloc C).alloc D).heap[w.heap.size + 1]? = some B ∧ ((((w.alloc A).alloc B).alloc C).alloc D).heap[w.heap.size + 1 + 1]? = some C ∧ ((((w.alloc A).alloc B).alloc C).alloc D).heap[w.heap.size + 1 + 1 + 1]? = some D ∧ Below w.heap.size w ((((w.alloc A).alloc B).alloc C).alloc D) ∧ ((((w.alloc A).alloc B).alloc C).alloc D).heap.size = w.heap.size + 4 := by
  obtain ⟨r1, r2, r3, hb, hs⟩ := iAlloc3 w A B C
  have x4 := Below.news (Below.refl (((w.alloc A).alloc B).alloc C).heap.size (((w.alloc A).alloc B).alloc C)) D
  have r4 := heap_alloc_new (((w.alloc A).alloc B).alloc C) D
  rw [hs] at r4
  exact ⟨iNext r1 x4, iNext r2 x4, iNext r3 x4, r4, bnext hb x4, by simp⟩
theorem retI {a b : Int} (h : a = b) : Ending.returned (.int .i64 a) = .returned (.int .i64 b) := by rw [h]
/-- What Find says. -/
def findX (l : List Dg.It) (id : ByteArray) : Int := match l.findIdx? (fun x => decide (x.id = id)) with | some i => (i : Int) | none => -1
theorem findX_at {l : List Dg.It} {id : ByteArray} {k : Nat} (hk : k < l.length) (h : l[k].id = id) (hb : ∀ x ∈ l.take k, x.id ≠ id) : findX l id = (k : Int) := by
  have : l.findIdx? (fun x => decide (x.id = id)) = some k := by
    rw [List.findIdx?_eq_some_iff_getElem]
    refine ⟨hk, by rw [h]; exact decide_eq_true rfl, fun j hj => ?_⟩
    have := hb (l[j]'(by omega)) (List.mem_take_iff_getElem.2 ⟨j, by omega, rfl⟩)
    simpa using this
  unfold findX
  rw [this]
theorem findX_none {l : List Dg.It} {id : ByteArray} (hb : ∀ x ∈ l, x.id ≠ id) : findX l id = -1 := by
  have : l.findIdx? (fun x => decide (x.id = id)) = none := by
    rw [List.findIdx?_eq_none_iff]
    intro x hx
    simpa using hb x hx
  unfold findX
  rw [this]
end Go.Proofs.YtobhpeockinnjaaGreatDoor
/- Leaves of package code. No conditions but those that each theorem states. -/
namespace Go.Proofs.YtobhpeockinnjaaGreatDoor
open Go Go.RowKit Go.Sort Go.Maps
theorem lawIntC : Keyed Tryz.prog 3 := int_keyed Tryz.underlying3
theorem key_intC (m : Int) (m0 : -9223372036854775808 ≤ m) (m1 : m ≤ 9223372036854775807) : keyOf Tryz.prog 3 (.int .i64 m) = some (.int .i64 m) :=
  keyOf_int_mk Tryz.underlying3 (WalkArith.wf_i64 ⟨m0, m1⟩)
set_option maxRecDepth 100000 in
theorem plainElem_str_inv {v : Value} {z : DataW Unit × List MemPlace} (h : plainElem Tryz.prog 9 v = some z) : ∃ x, v = .string x ∧ z = (.lit (.string x.data.toList), []) := by
  unfold plainElem at h
  rw [Tryz.underlying9] at h
  split at h
  · rename_i h1; cases h1
  · rename_i h1; cases h1
  · split at h
    · cases h; exact ⟨_, rfl, rfl⟩
    · cases h
  · cases h
noncomputable def rSt : Value → Option (DataW Unit × List MemPlace) := plainElem Tryz.prog 9
noncomputable def kindD : DataW Unit := ((DataW.map []).put (.int .i64 1) (.lit (.string Dg.sD.data.toList))).put (.int .i64 2) (.lit (.string Dg.sA.data.toList))
theorem kindD_at (m : Int) (hm : m = 1 ∨ m = 2) : kindD.atKey (.int .i64 m) (.lit (.string [])) = .lit (.string (if m = 1 then Dg.sD else Dg.sA).data.toList) := by
  unfold kindD
  rcases hm with rfl | rfl
  · rw [atKey_put_other (fun e => by cases e), atKey_put_same isMap_empty (by trivial)]
    rfl
  · rw [atKey_put_same (isMap_empty.put _ _) (by trivial)]
    rfl
set_option maxRecDepth 100000 in
/-- The map of the kinds' letters, made and asked. -/
theorem kind_run (w : World) (m : Int) (hm : m = 1 ∨ m = 2) : ∃ wa wb, (Instr.mapUpdate 104 (.map (some w.heap.size)) (.int .i64 1) (.string Dg.sD)).run Tryz.prog (w.alloc (.map #[] 0)) = .ok () wa ∧ (Instr.mapUpdate 104 (.map (some w.heap.size)) (.int .i64 2) (.string Dg.sA)).run Tryz.prog wa = .ok () wb ∧
    (Instr.lookup 104 (.map (some w.heap.size)) (.int .i64 m) false).run Tryz.prog wb = .ok (.string (if m = 1 then Dg.sD else Dg.sA)) wb ∧ Below w.heap.size w wb := by
  have h0 := World.ownsMap_made w Tryz.prog 3 rSt
  obtain ⟨wa, r1, h1, g1⟩ := World.ownsMap.update h0 lawIntC Tryz.underlying104 (by unfold maxLen; omega) (key_intC 1 (by omega) (by omega)) (plainElem_string (H := Unit) Tryz.underlying9 (s := Dg.sD) (by decide))
  obtain ⟨wb, r2, h2, g2⟩ := World.ownsMap.update h1 lawIntC Tryz.underlying104 (by unfold maxLen; omega) (key_intC 2 (by omega) (by omega)) (plainElem_string (H := Unit) Tryz.underlying9 (s := Dg.sA) (by decide))
  obtain ⟨v, ps, r3, hv⟩ := h2.lookup lawIntC Tryz.underlying104 (z := .string ⟨#[]⟩) (by kernel_rfl) (plainElem_string Tryz.underlying9 (s := ⟨#[]⟩) (by decide)) (key_intC m (by rcases hm with rfl | rfl <;> omega) (by rcases hm with rfl | rfl <;> omega))
  rw [show (((DataW.map []).put (Lit.int IntKind.i64 1) (DataW.lit (Lit.string Dg.sD.data.toList))).put (Lit.int IntKind.i64 2) (DataW.lit (Lit.string Dg.sA.data.toList)) : DataW Unit).atKey (.int .i64 m) (.lit (.string (⟨#[]⟩ : ByteArray).data.toList)) = _ from kindD_at m hm] at hv
  obtain ⟨x, rfl, hx⟩ := plainElem_str_inv hv
  injection hx with hx _
  injection hx with hx
  injection hx with hx
  have hxx : x = (if m = 1 then Dg.sD else Dg.sA) := Dg.L_inj hx.symm
  rw [hxx] at r3
  refine ⟨wa, wb, r1, r2, r3, ?_⟩
  have x0 := Below.news (Below.refl w.heap.size w) (.map #[] 0)
  exact (x0.grown g1 x0.size (fun j hj => by cases hj; exact Nat.le_refl _)).grown g2 (Nat.le_trans x0.size g1.size) (fun j hj => by cases hj; exact Nat.le_refl _)
set_option maxRecDepth 100000 in
set_option maxHeartbeats 8000000 in
theorem leaves1_any (l : List Dg.It) (AI : Option Addr) (n c : Nat) (hl : l.length = n) (B0 n0 bo b2 : Nat) (hbo : bo < n0) (hB2 : B0 ≤ bo) (k : Nat) (hk : k < l.length) (W : World) (he : Env W) (hI : Its W B0 AI l) (hkd : l[k].kind = 1 ∨ l[k].kind = 2) (hz : ∀ s ∈ Dg.fieldsI l[k], s.size ≤ 1073741824)
    (r2 : W.heap[b2]? = some (.cells #[.slice AI n c] 24 (0, 0))) (v : Value) (L : List ByteArray) (hO : OutAt bo n0 W v L) (hLl : L.length ≤ 1099511627000) (hn0 : n0 ≤ W.heap.size) (A : Option Addr) (m co : Nat) :
    Calls Tryz.prog 65 #[.int .i64 (k : Int), .slice A m co, .pointer (some ⟨b2, 0, none⟩), .pointer (some ⟨bo, 0, none⟩)] W fun e W' => e = .returned (.tuple #[]) ∧ OutStep bo n0 W W' v (if l[k].gone = true then L else L ++ [Dg.leafI l[k]]) := by
  have hB0 : B0 ≤ W.heap.size := by omega
  obtain ⟨b, off, rfl⟩ := hI.some hk
  obtain ⟨x, hx⟩ : ∃ x, l[k] = x := ⟨_, rfl⟩
  obtain ⟨hbl, p0, p1, p2, p3, p4, p5, p6⟩ := hI.cells hk x hx
  rw [hx] at hkd hz ⊢
  have HZ := hide hz
  clear hx hz
  obtain ⟨L2, hL2⟩ : ∃ L2, (if x.gone = true then L else L ++ [Dg.leafI x]) = L2 := ⟨_, rfl⟩
  rw [hL2]
  have HL2 := hide hL2
  clear hL2
  have hidx : (k : Int) < (n : Int) := by omega
  have hk0 : (0 : Int) ≤ (k : Int) := by omega
  have hc2 := iCells0 r2
  have hx1 := Below.news (Below.refl W.heap.size W) (.cells #[.int .i64 x.kind, .string x.id, .string x.parent, .string x.number, .string x.north, .string x.south, .bool x.gone] 26)
  have hrow := heap_alloc_new W (.cells #[.int .i64 x.kind, .string x.id, .string x.parent, .string x.number, .string x.north, .string x.south, .bool x.gone] 26)
  have hmm := @run_makeMap Tryz.prog
  obtain ⟨wa, wb, q1, q2, q3, hq⟩ := kind_run (W.alloc (.cells #[.int .i64 x.kind, .string x.id, .string x.parent, .string x.number, .string x.north, .string x.south, .bool x.gone] 26)) x.kind hkd
  obtain ⟨KW, hKW⟩ : ∃ K, (if x.kind = 1 then Dg.sD else Dg.sA) = K := ⟨_, rfl⟩
  rw [hKW] at q3
  have HKW := hide hKW
  have hKD : Hid (x.kind = 1 ∨ x.kind = 2) := hkd
  clear hKW hkd
  have hsz1 : (W.alloc (.cells #[.int .i64 x.kind, .string x.id, .string x.parent, .string x.number, .string x.north, .string x.south, .bool x.gone] 26)).heap.size = W.heap.size + 1 := by simp
  rw [hsz1] at q1 q2 q3
  clear hsz1
  unfold Dg.sD at q1
  unfold Dg.sA at q2
  go_enter Tryz.func65, Tryz.ntmps65
  go_upto_region 1 with (fail)
  have hxx := bnext hx1 hq
  have hrowb := iNext hrow hq
  obtain ⟨c0, c1, c2, c3, c4, c5, c6⟩ := iCells (iNext hrow hq)
  clear p0 p1 p2 p3 p4 p5 p6 hc2 r2
  go_upto_region 2 with (fail)
  have hOb : OutAt bo n0 wb v L := hO.same (fun g hg => hxx.block g (by
    rcases mem_outS hg with rfl | e
    · exact lt_of_block hO.row
    · exact (OwnV.lt hO.own e).2))
  have hsb := hide hxx.size
  have hXX := hide hxx
  have hbi : Hid (W.heap.size < wb.heap.size) := lt_of_block hrowb
  clear q1 q2 q3 hq hrow hx1 hmm
  cases hgo : x.gone with
  | true =>
    have e2 : L = L2 := by rw [← HL2.out, if_pos hgo]
    subst e2
    rw [hgo] at c6
    clear hgo
    go_wp2
    go_end0
    exact ⟨rfl, OutStep.none hO hXX.out⟩
  | false =>
    have e2 := hide (show L ++ [Dg.leafI x] = L2 by rw [← HL2.out, if_neg (by rw [hgo]; exact Bool.false_ne_true)])
    rw [hgo] at c6
    go_upto_region 3 with (fail)
    have hmx : Tryz.prog.follows .mixedOrders = true := by kernel_rfl
    have hHeld : (fun X_ : World => X_.heap[bo]? = some (.cells #[v] 27 (0, 0)) ∧ X_.heap[W.heap.size]? = some (.cells #[.int .i64 x.kind, .string x.id, .string x.parent, .string x.number, .string x.north, .string x.south, .bool x.gone] 26 (0, 0))) wb.drew := ⟨hOb.row, hrowb⟩
    have hOd : OutAt bo n0 wb.drew v L := ⟨hOb.row, hOb.own.below (Below.refl wb.heap.size wb).drew⟩
    have hxd : Below W.heap.size W wb.drew := bnext hXX.out (Below.refl wb.heap.size wb).drew
    have hed := he.next hxd
    refine wp_region_noPanic ?_
    refine wp_region_L (fun X_ : World => X_.heap[bo]? = some (.cells #[v] 27 (0, 0)) ∧ X_.heap[W.heap.size]? = some (.cells #[.int .i64 x.kind, .string x.id, .string x.parent, .string x.number, .string x.north, .string x.south, .bool x.gone] 26 (0, 0))) 14 hmx ?_
    generalize wb.drew = u0 at *
    clear hrowb hOb c0 c1 c2 c3 c4 c5 c6 hsb hXX hbi
    refine wpAnyL_take (i := 0) (f0 := 16) (v := ?_) rfl (by decide +kernel) (by decide +kernel) (by decide +kernel) (by decide +kernel) (by decide +kernel) (fun _ _ _ h => h) (Or.inl ⟨by rfl, ?_⟩) hHeld ?_
    rotate_left
    · intro wS hS; obtain ⟨hS1, hS2⟩ := hS; have c9 := iCells0 hS1; go_simp; (try with_reducible rfl)
    simp only [Act.put, List.getElem_toArray, List.getElem_cons_zero, List.setIfInBounds_toArray, List.set_cons_succ, List.set_cons_zero]
    refine wpAnyL_take (i := 1) (f0 := 16) (v := ?_) rfl (by decide +kernel) (by decide +kernel) (by decide +kernel) (by decide +kernel) (by decide +kernel) (fun _ _ _ h => h) (Or.inl ⟨by rfl, ?_⟩) hHeld ?_
    rotate_left
    · intro wS hS; obtain ⟨hS1, hS2⟩ := hS; go_simp; (try with_reducible rfl)
    simp only [Act.put, List.getElem_toArray, List.getElem_cons_succ, List.getElem_cons_zero, List.setIfInBounds_toArray, List.set_cons_succ, List.set_cons_zero]
    refine wpAnyL_take (i := 2) (f0 := 16) (v := ?_) rfl (by decide +kernel) (by decide +kernel) (by decide +kernel) (by decide +kernel) (by decide +kernel) (fun _ _ _ h => h) (Or.inl ⟨by rfl, ?_⟩) hHeld ?_
    rotate_left
    · intro wS hS; obtain ⟨hS1, hS2⟩ := hS; go_simp; (try with_reducible rfl)
    simp only [Act.put, List.getElem_toArray, List.getElem_cons_succ, List.getElem_cons_zero, List.setIfInBounds_toArray, List.set_cons_succ, List.set_cons_zero]
    refine wpAnyL_take (i := 3) (f0 := 16) (v := ?_) rfl (by decide +kernel) (by decide +kernel) (by decide +kernel) (by decide +kernel) (by decide +kernel) (fun _ _ _ h => h) (Or.inl ⟨by rfl, ?_⟩) hHeld ?_
    rotate_left
    · intro wS hS; obtain ⟨hS1, hS2⟩ := hS; obtain ⟨c0, c1, c2, c3, c4, c5, c6⟩ := iCells hS2; go_simp; (try with_reducible rfl)
    simp only [Act.put, List.getElem_toArray, List.getElem_cons_succ, List.getElem_cons_zero, List.setIfInBounds_toArray, List.set_cons_succ, List.set_cons_zero]
    refine wpAnyL_take (i := 4) (f0 := 16) (v := ?_) rfl (by decide +kernel) (by decide +kernel) (by decide +kernel) (by decide +kernel) (by decide +kernel) (fun _ _ _ h => h) (Or.inl ⟨by rfl, ?_⟩) hHeld ?_
    rotate_left
    · intro wS hS; obtain ⟨hS1, hS2⟩ := hS; go_simp; (try with_reducible rfl)
    simp only [Act.put, List.getElem_toArray, List.getElem_cons_succ, List.getElem_cons_zero, List.setIfInBounds_toArray, List.set_cons_succ, List.set_cons_zero]
    refine wpAnyL_take (i := 5) (f0 := 16) (v := ?_) rfl (by decide +kernel) (by decide +kernel) (by decide +kernel) (by decide +kernel) (by decide +kernel) (fun _ _ _ h => h) (Or.inl ⟨by rfl, ?_⟩) hHeld ?_
    rotate_left
    · intro wS hS; obtain ⟨hS1, hS2⟩ := hS; obtain ⟨c0, c1, c2, c3, c4, c5, c6⟩ := iCells hS2; go_simp; (try with_reducible rfl)
    simp only [Act.put, List.getElem_toArray, List.getElem_cons_succ, List.getElem_cons_zero, List.setIfInBounds_toArray, List.set_cons_succ, List.set_cons_zero]
    refine wpAnyL_take (i := 6) (f0 := 16) (v := ?_) rfl (by decide +kernel) (by decide +kernel) (by decide +kernel) (by decide +kernel) (by decide +kernel) (fun _ _ _ h => h) (Or.inl ⟨by rfl, ?_⟩) hHeld ?_
    rotate_left
    · intro wS hS; obtain ⟨hS1, hS2⟩ := hS; go_simp; (try with_reducible rfl)
    simp only [Act.put, List.getElem_toArray, List.getElem_cons_succ, List.getElem_cons_zero, List.setIfInBounds_toArray, List.set_cons_succ, List.set_cons_zero]
    refine wpAnyL_take (i := 7) (f0 := 16) (v := ?_) rfl (by decide +kernel) (by decide +kernel) (by decide +kernel) (by decide +kernel) (by decide +kernel) (fun _ _ _ h => h) (Or.inl ⟨by rfl, ?_⟩) hHeld ?_
    rotate_left
    · intro wS hS; obtain ⟨hS1, hS2⟩ := hS; obtain ⟨c0, c1, c2, c3, c4, c5, c6⟩ := iCells hS2; go_simp; (try with_reducible rfl)
    simp only [Act.put, List.getElem_toArray, List.getElem_cons_succ, List.getElem_cons_zero, List.setIfInBounds_toArray, List.set_cons_succ, List.set_cons_zero]
    refine wpAnyL_take (i := 8) (f0 := 16) (v := ?_) rfl (by decide +kernel) (by decide +kernel) (by decide +kernel) (by decide +kernel) (by decide +kernel) (fun _ _ _ h => h) (Or.inl ⟨by rfl, ?_⟩) hHeld ?_
    rotate_left
    · intro wS hS; obtain ⟨hS1, hS2⟩ := hS; go_simp; (try with_reducible rfl)
    simp only [Act.put, List.getElem_toArray, List.getElem_cons_succ, List.getElem_cons_zero, List.setIfInBounds_toArray, List.set_cons_succ, List.set_cons_zero]
    refine wpAnyL_take (i := 9) (f0 := 16) (v := ?_) rfl (by decide +kernel) (by decide +kernel) (by decide +kernel) (by decide +kernel) (by decide +kernel) (fun _ _ _ h => h) (Or.inl ⟨by rfl, ?_⟩) hHeld ?_
    rotate_left
    · intro wS hS; obtain ⟨hS1, hS2⟩ := hS; obtain ⟨c0, c1, c2, c3, c4, c5, c6⟩ := iCells hS2; go_simp; (try with_reducible rfl)
    simp only [Act.put, List.getElem_toArray, List.getElem_cons_succ, List.getElem_cons_zero, List.setIfInBounds_toArray, List.set_cons_succ, List.set_cons_zero]
    refine wpAnyL_one (i := 10) (by decide +kernel) (by rfl) (fun K hK => ?_)
    rw [if_pos (by rfl)]
    go_simp
    have hx10 := Below.news (Below.refl u0.heap.size u0) (.cells #[.string KW, .string x.id, .string x.parent, .string x.north, .string x.south] 9)
    have hHeld10 : (fun X_ : World => X_.heap[bo]? = some (.cells #[v] 27 (0, 0)) ∧ X_.heap[W.heap.size]? = some (.cells #[.int .i64 x.kind, .string x.id, .string x.parent, .string x.number, .string x.north, .string x.south, .bool x.gone] 26 (0, 0))) (u0.alloc (.cells #[.string KW, .string x.id, .string x.parent, .string x.north, .string x.south] 9)) := ⟨iNext hHeld.1 hx10, iNext hHeld.2 hx10⟩
    refine hK.out _ _ (Or.inr hHeld10) ?_
    clear hK K
    try simp only [Act.put, List.getElem_toArray, List.getElem_cons_succ, List.getElem_cons_zero, List.setIfInBounds_toArray, List.set_cons_succ, List.set_cons_zero]
    refine wpAnyL_one (i := 11) (by decide +kernel) (by rfl) (fun K hK => ?_)
    rw [if_pos (by rfl)]
    go_simp
    have hst5 : Strs (u0.alloc (.cells #[.string KW, .string x.id, .string x.parent, .string x.north, .string x.south] 9)) (u0.alloc (.cells #[.string KW, .string x.id, .string x.parent, .string x.north, .string x.south] 9)).heap.size (some ⟨u0.heap.size, 0, none⟩) [KW, x.id, x.parent, x.north, x.south] := Strs.new u0 _ _ _ rfl
    have hkw : KW.size ≤ 1 := by rw [← HKW.out]; split <;> decide
    refine (Code.joined_of _ 5 5 [KW, x.id, x.parent, x.north, x.south] rfl (by omega) (fun s hs => by
      rcases List.mem_cons.1 hs with rfl | hs
      · omega
      · refine HZ.out s ?_
        unfold Dg.fieldsI
        rcases List.mem_cons.1 hs with rfl | hs
        · simp
        · rcases List.mem_cons.1 hs with rfl | hs
          · simp
          · rcases List.mem_cons.1 hs with rfl | hs
            · simp
            · rcases List.mem_cons.1 hs with rfl | hs
              · simp
              · cases hs) _ (hed.next hx10) hst5 (Dg.leafI x) (by unfold Dg.leafI; rw [HKW.out])).mono ?_
    rintro e u11 ⟨rfl, hb11⟩
    have hx11 := bnext hx10 hb11
    have hHeld11 : (fun X_ : World => X_.heap[bo]? = some (.cells #[v] 27 (0, 0)) ∧ X_.heap[W.heap.size]? = some (.cells #[.int .i64 x.kind, .string x.id, .string x.parent, .string x.number, .string x.north, .string x.south, .bool x.gone] 26 (0, 0))) u11 := ⟨iNext hHeld.1 hx11, iNext hHeld.2 hx11⟩
    refine hK.out _ _ (Or.inr hHeld11) ?_
    clear hK K hst5 hHeld10
    try simp only [Act.put, List.getElem_toArray, List.getElem_cons_succ, List.getElem_cons_zero, List.setIfInBounds_toArray, List.set_cons_succ, List.set_cons_zero]
    obtain ⟨LF, hLF⟩ : ∃ F, Dg.leafI x = F := ⟨_, rfl⟩
    rw [hLF] at e2 ⊢
    refine wpAnyL_one (i := 12) (by decide +kernel) (by rfl) (fun K hK => ?_)
    rw [if_pos (by rfl)]
    go_simp
    have hx12 := bnext hx11 (Below.news (Below.refl u11.heap.size u11) (.cells #[.string LF] 9))
    have hHeld12 : (fun X_ : World => X_.heap[bo]? = some (.cells #[v] 27 (0, 0)) ∧ X_.heap[W.heap.size]? = some (.cells #[.int .i64 x.kind, .string x.id, .string x.parent, .string x.number, .string x.north, .string x.south, .bool x.gone] 26 (0, 0))) (u11.alloc (.cells #[.string LF] 9)) := ⟨iNext hHeld.1 hx12, iNext hHeld.2 hx12⟩
    refine hK.out _ _ (Or.inr hHeld12) ?_
    clear hK K hHeld11
    try simp only [Act.put, List.getElem_toArray, List.getElem_cons_succ, List.getElem_cons_zero, List.setIfInBounds_toArray, List.set_cons_succ, List.set_cons_zero]
    refine wpAnyL_one (i := 13) (by decide +kernel) (by rfl) (fun K hK => ?_)
    rw [if_pos (by rfl)]
    have hn00 : n0 ≤ u0.heap.size := Nat.le_trans hn0 hxd.size
    refine wp_ag (.tmp 21) (.tmp 33) (by rfl) n0 v L [LF] (by rfl) (OwnS.below hOd.own hx12) ⟨u11.heap.size, 0, none⟩ 1 1 (by rfl) rfl (fun j s hj => by
      cases j with
      | zero => cases hj; exact cell_of_row _ _ _ _ _ (0, 0) (heap_alloc_new u11 _)
      | succ j => cases hj) (by omega) (Nat.le_trans hn00 hx12.size) ?_
    intro v8 u13 hO8 hg8 hat8
    have hrw := (out_row hOd hbo hn00 hx12 hg8).1
    have hrow13 : u13.heap[W.heap.size]? = some (.cells #[.int .i64 x.kind, .string x.id, .string x.parent, .string x.number, .string x.north, .string x.south, .bool x.gone] 26 (0, 0)) := (hg8.block _ (lt_of_block hHeld12.2) (fun e => by have := (OwnV.lt hO.own e.symm).2; omega)).trans hHeld12.2
    have hHeld13 : (fun X_ : World => X_.heap[bo]? = some (.cells #[v] 27 (0, 0)) ∧ X_.heap[W.heap.size]? = some (.cells #[.int .i64 x.kind, .string x.id, .string x.parent, .string x.number, .string x.north, .string x.south, .bool x.gone] 26 (0, 0))) u13 := ⟨hrw, hrow13⟩
    refine hK.out _ _ (Or.inr hHeld13) ?_
    clear hK K hHeld12
    try simp only [Act.put, List.getElem_toArray, List.getElem_cons_succ, List.getElem_cons_zero, List.setIfInBounds_toArray, List.set_cons_succ, List.set_cons_zero]
    have fz := frozen_of_row _ bo 0 _ _ hrw
    have hoc := iCells0 hrw
    obtain ⟨A8, c8, e8, _, _⟩ := hO8.strs
    rw [show (L ++ [LF]).length = L.length + 1 by simp] at e8
    subst e8
    refine wpAnyL_one (i := 14) (by decide +kernel) (by rfl) (fun K hK => ?_)
    rw [if_pos (by rfl)]
    go_simp
    refine hK.out _ _ (Or.inl (by decide +kernel)) ?_
    clear hK K
    try simp only [Act.put, List.getElem_toArray, List.getElem_cons_succ, List.getElem_cons_zero, List.setIfInBounds_toArray, List.set_cons_succ, List.set_cons_zero]
    have HS := hide (out_done hO hbo hn0 (bnext hxd hx12) hg8 hO8 hat8)
    clear fz hoc hrw hrow13 hHeld13 hO8 hg8 hat8 hOd hx10 hb11 hx11 hx12
    refine wpAnyL_done (by decide +kernel) ?_ _
    refine NoPanic.normal ?_
    go_wp2
    go_end0
    exact ⟨rfl, by rw [← e2.out]; exact HS.out⟩
end Go.Proofs.YtobhpeockinnjaaGreatDoor
/- Leaves of package code, the whole. No conditions but those that each theorem states. -/
namespace Go.Proofs.YtobhpeockinnjaaGreatDoor
open Go Go.RowKit Go.Sort Go.Maps
theorem Env.same {w w' : World} (h : Env w) (hg : w'.heap[0]? = w.heap[0]?) : Env w' := by
  unfold Env Lib.TabIs at h ⊢
  unfold World.var? at h ⊢
  simp only [gPow, Option.bind_some] at h ⊢
  rw [hg]
  exact h
theorem leavesOf_snoc (l : List Dg.It) (k : Nat) (hk : k < l.length) : Dg.leavesOf (l.take (k + 1)) = if l[k].gone = true then Dg.leavesOf (l.take k) else Dg.leavesOf (l.take k) ++ [Dg.leafI l[k]] := by
  unfold Dg.leavesOf
  rw [List.take_succ_eq_append_getElem hk, List.filter_append, List.map_append]
  by_cases h : l[k].gone = true
  · rw [if_pos h, List.filter_cons_of_neg (by simp [h]), List.filter_nil, List.map_nil, List.append_nil]
  · rw [if_neg h, List.filter_cons_of_pos (by simpa using h), List.filter_nil]; rfl
theorem leavesOf_len (l : List Dg.It) : (Dg.leavesOf l).length ≤ l.length := by
  unfold Dg.leavesOf
  rw [List.length_map]
  exact List.length_filter_le _ _
theorem visit_kind {l : List Dg.It} {k : Nat} (hk : k < l.length) {r : List (List ByteArray) × Dg.Wk} (h : Dg.walkTo l (k + 1) = some r) : l[k].kind = 1 ∨ l[k].kind = 2 := by
  obtain ⟨vs, s⟩ := r
  obtain ⟨vs0, s0, o, _, h2, _⟩ := Dg.walk_step hk h
  have hp := (Dg.stepI_some h2).1
  rcases Dg.proper_kind hp with ⟨e, _⟩ | ⟨e, _⟩
  · exact Or.inl e
  · exact Or.inr e
set_option maxRecDepth 100000 in
set_option maxHeartbeats 4000000 in
theorem Code.leaves_of (l : List Dg.It) (A : Option Addr) (n c : Nat) (hl : l.length = n) (hw : ∀ x ∈ l, ItW x) (hn : n ≤ 1048576) (w : World) (he : Env w) (hI : Its w w.heap.size A l) (hz : ∀ x ∈ l, ∀ s ∈ Dg.fieldsI x, s.size ≤ 1073741824) (L : List ByteArray) (hL : Dg.leavesC l = L) :
    Calls Tryz.prog 32 #[.agg #[.slice A n c]] w fun e w' => (∃ A' c', e = .returned (.slice A' L.length c') ∧ L.length ≤ c' ∧ Strs w' w'.heap.size A' L) ∧ Below w.heap.size w w' := by
  obtain ⟨r2, ro, hb, hs⟩ := iAlloc2 w (.cells #[.slice A n c] 24) (.cells #[.slice none 0 0] 27)
  have hmf : ∀ (fn : Fn) (first cap : Array Value) (w : World), (Instr.makeFunc fn first cap).run Tryz.prog w = .ok (.func fn first cap) w := fun _ _ _ _ => rfl
  have HI := hide hI; have HW := hide hw; have HL := hide hl; have HQ := hide hL; have HZ := hide hz
  have hgl := he.lt
  clear hI hw hl hL hz
  go_enter Tryz.func32, Tryz.ntmps32
  go_wp2_with fail
  obtain ⟨R, hR⟩ : ∃ R, Dg.validC l = R := ⟨_, rfl⟩
  generalize (w.alloc (.cells #[.slice A n c] 24)).alloc (.cells #[.slice none 0 0] 27) = W1 at *
  refine (out_walk l A n c HL.out HW.out (by omega) w.heap.size (w.heap.size + 1) W1 (HI.out.below hb) (by omega) (by omega) (fun W => W.heap[w.heap.size]? = some (.cells #[.slice A n c] 24 (0, 0)) ∧ Its W w.heap.size A l ∧ Env W)
    (fun W W' h hg => ⟨(hg _ (by omega) (by omega)).trans h.1, h.2.1.same fun g hg' => hg g (by omega) (by omega), h.2.2.same (hg _ (by omega) (by omega))⟩) (fun vs => Dg.leavesOf (l.take vs.length)) (enters_of Tryz.func65 (by kernel_rfl) rfl)
    (fun k W v o A' c' vs s hk hlow hO hn0 hwt hvl hS hoc => by
      subst hvl
      have h1 := leaves1_any l A n c HL.out w.heap.size W1.heap.size (w.heap.size + 1) w.heap.size (by omega) (by omega) vs.length hk W hlow.2.2 hlow.2.1 (visit_kind hk hwt) (HZ.out _ (List.getElem_mem hk)) hlow.1 v _ hO (by have h9 := leavesOf_len (l.take vs.length); rw [List.length_take] at h9; have := HL.out; omega) hn0 A' o.length c'
      rw [← leavesOf_snoc l vs.length hk] at h1
      rw [List.length_append, List.length_singleton]
      exact h1)
    ⟨ro, OwnS.nil _ _⟩ ⟨r2, HI.out.below hb, he.next hb⟩ R hR).mono ?_
  rintro e w2 ⟨rfl, v, L', hL', hO2, _, hb2, hsz2⟩
  have hb' : Below w.heap.size w w2 := hb.trans (hb2.mono (by omega))
  obtain ⟨A2, c2, rfl, hc2, hS2⟩ := hO2.own.strs
  have hcc := iCells0 hO2.row
  have hq := HQ.out
  unfold Dg.leavesC at hq
  rw [hR] at hq
  have HLL := hide hL'
  have hv := hide hR
  clear hL' hb hb2 r2 ro hO2 hR HQ hgl
  cases R with
  | false =>
    rw [if_neg Bool.false_ne_true] at hq
    subst hq
    go_wp2
    go_ret
    exact ⟨⟨none, 0, rfl, Nat.le_refl _, Strs.nil _ _ _⟩, hb'⟩
  | true =>
    rw [if_pos rfl] at hq
    have e9 := HLL.out rfl
    rw [visits_le l hv.out, List.take_length, hq] at e9
    subst e9
    have HQ2 := hide hq
    clear hq
    go_wp2
    go_ret
    exact ⟨⟨A2, c2, rfl, hc2, hS2⟩, hb'⟩
end Go.Proofs.YtobhpeockinnjaaGreatDoor
/- Slices of items of the call's own. No conditions but those that each theorem states. -/
namespace Go.Proofs.YtobhpeockinnjaaGreatDoor
open Go Go.RowKit Go.Sort Go.Maps
theorem itemInfo : (Tryz.prog.info? 26).map (fun i => (i.zero, i.size, i.bytes)) = some (some (.agg #[.int .i64 0, .string ⟨#[]⟩, .string ⟨#[]⟩, .string ⟨#[]⟩, .string ⟨#[]⟩, .string ⟨#[]⟩, .bool false]), 7, 96) := by kernel_rfl
def itL (x : Dg.It) : List Value := [.int .i64 x.kind, .string x.id, .string x.parent, .string x.number, .string x.north, .string x.south, .bool x.gone]
/-- Items of the call's own, from block B on. -/
def OwnI (w : World) (B : Nat) (v : Value) (l : List Dg.It) : Prop := w.ownsRow B 26 7 v l.length (l.flatMap itL)
theorem itL_len (l : List Dg.It) : (l.flatMap itL).length = l.length * 7 := by
  induction l with
  | nil => rfl
  | cons c l ih => rw [List.flatMap_cons, List.length_append, ih, List.length_cons]; show 7 + l.length * 7 = _; omega
theorem itL_one (l : List Dg.It) : ∀ u ∈ l.flatMap itL, u.oneCell' = true := fun u hu => by
  obtain ⟨c, _, hc⟩ := List.mem_flatMap.1 hu
  simp only [itL, List.mem_cons, List.not_mem_nil, or_false] at hc
  rcases hc with rfl | rfl | rfl | rfl | rfl | rfl | rfl <;> rfl
theorem itL_get : ∀ (l : List Dg.It) (j i : Nat) (x : Dg.It), l[j]? = some x → i < 7 → (l.flatMap itL)[j * 7 + i]? = (itL x)[i]?
  | [], j, i, c, h, _ => by simp at h
  | a :: l, 0, i, c, h, hi => by
    obtain rfl : a = c := by simpa using h
    rw [List.flatMap_cons, Nat.zero_mul, Nat.zero_add, List.getElem?_append_left (by exact hi)]
  | a :: l, j + 1, i, c, h, hi => by
    have h7 : (itL a).length = 7 := rfl
    rw [List.flatMap_cons, List.getElem?_append_right (by omega), h7, show (j + 1) * 7 + i - 7 = j * 7 + i by omega]
    exact itL_get l j i c (by simpa using h) hi
theorem OwnI.below {w w' : World} {B : Nat} {v : Value} {l : List Dg.It} (h : OwnI w B v l) (hb : Below w.heap.size w w') : OwnI w' B v l := own_below h hb
theorem OwnI.its {w : World} {B : Nat} {v : Value} {l : List Dg.It} (h : OwnI w B v l) : ∃ A c, v = .slice A l.length c ∧ l.length ≤ c ∧ Its w w.heap.size A l := by
  rcases h.2 with ⟨rfl, h0⟩ | ⟨g, cap, cur, rfl, hB, hg, hc, _, hsz, hx⟩
  · obtain rfl := List.length_eq_zero_iff.1 h0
    exact ⟨none, 0, rfl, Nat.le_refl _, Its.nil _ _ _⟩
  · refine ⟨_, cap, rfl, hc, ⟨fun _ => ⟨g, 0, rfl, lt_of_block hg, fun j x hj i u hu => ?_⟩⟩⟩
    have hi : i < 7 := (Array.getElem?_eq_some_iff.1 hu).1
    rw [Nat.zero_add, cell_of_row _ _ _ _ _ (0, 0) hg, ← Array.getElem?_toList]
    have h1 : (cur.toList.take (l.length * 7))[j * 7 + i]? = some u := by
      rw [hx, itL_get l j i x hj hi]
      rw [← Array.getElem?_toList] at hu
      exact hu
    rw [List.getElem?_take] at h1
    split at h1
    · exact h1
    · cases h1
theorem OwnI.lit (w : World) (B : Nat) (hB : B ≤ w.heap.size) (l : List Dg.It) (n : Nat) (hn : l.length = n) (hm : n ≤ 1099511627776) (cs : Array Value) (h : cs.toList = l.flatMap itL) : OwnI (w.alloc (.cells cs 26)) B (.slice (some ⟨w.heap.size, 0, none⟩) n n) l := by
  subst hn
  have h1 : cs.size = l.length * 7 := by rw [← Array.length_toList, h, itL_len]
  have h2 := World.ownsRow_lit (e := 26) (size := 7) w cs l.length hB (by unfold maxLen; omega) h1
  unfold OwnI
  rw [← h]
  exact h2
/-- Cells of items in a row, or none. -/
def SrcI (w : World) (A : Option Addr) (l : List Dg.It) : Prop := l = [] ∨ ∃ b off, A = some ⟨b, off, none⟩ ∧ ∀ (j : Nat) u, (l.flatMap itL)[j]? = some u → w.cell? ⟨b, off + j, none⟩ = some u
theorem Its.src {w : World} {B : Nat} {A : Option Addr} {l : List Dg.It} (h : Its w B A l) : SrcI w A l := by
  rcases Nat.eq_zero_or_pos l.length with h0 | h0
  · exact Or.inl (List.length_eq_zero_iff.1 h0)
  · obtain ⟨b, off, rfl, hb, hc⟩ := h.at_ h0
    refine Or.inr ⟨b, off, rfl, fun j u hu => ?_⟩
    have hjl : j < l.length * 7 := by
      have := (List.getElem?_eq_some_iff.1 hu).1
      rw [itL_len] at this
      exact this
    have hd : j / 7 < l.length := by omega
    have hm : j % 7 < 7 := Nat.mod_lt _ (by omega)
    have hj : j = j / 7 * 7 + j % 7 := by omega
    rw [hj, itL_get l _ _ _ (List.getElem?_eq_getElem hd) hm] at hu
    have := hc (j / 7) _ (List.getElem?_eq_getElem hd) (j % 7) u (by rw [← Array.getElem?_toList]; exact hu)
    rw [hj, show off + (j / 7 * 7 + j % 7) = off + j / 7 * 7 + j % 7 by omega]
    exact this
/-- An append of a slice of items. -/
theorem wp_ai {w : World} {o : Oper} {a : Act} {K : Act → World → Prop} {Q : Exit → Act → World → Prop} (sl x : Operand)
    (ho : o.op = .call { callee := .builtin .append, args := #[sl, x], argTypes := #[22, 22] })
    (B : Nat) (v : Value) (l m : List Dg.It) (hs : a.eval sl = v) (hO : OwnI w B v l) (A : Option Addr) (n cap : Nat) (hx : a.eval x = .slice A n cap) (hn : m.length = n) (hsrc : SrcI w A m)
    (hlen : (l.length + n) * 96 ≤ 140737488355328) (hB : B ≤ w.heap.size)
    (h : ∀ v' w', OwnI w' B v' (l ++ m) → Below B w w' → w.grownBy w' v.ownBlock → K (a.put o.dst v') w') : o.wp Tryz.prog a w K Q := by
  subst hn
  obtain ⟨i, h1, h2, h3, h4⟩ := info_parts itemInfo
  have hrun0 : ∀ c, (Builtin.append_ #[22, 22] o.type #[v, .slice none 0 c]).run Tryz.prog w = .ok v w := fun c => run_append_none (P := Tryz.prog) B 22 o.type 26 i 7 Tryz.underlying22 h1 v l.length _ hO c
  have key : ∃ v' w', (Builtin.append_ #[22, 22] o.type #[v, .slice A m.length cap]).run Tryz.prog w = .ok v' w' ∧ OwnI w' B v' (l ++ m) ∧ Below B w w' ∧ w.grownBy w' v.ownBlock := by
    have hnil : m = [] → ∃ v' w', (Builtin.append_ #[22, 22] o.type #[v, .slice none 0 cap]).run Tryz.prog w = .ok v' w' ∧ OwnI w' B v' (l ++ m) ∧ Below B w w' ∧ w.grownBy w' v.ownBlock := fun h0 => by
      subst h0
      exact ⟨v, w, hrun0 cap, by rw [List.append_nil]; exact hO, Below.refl _ _, ⟨rfl, rfl, rfl, Nat.le_refl _, fun _ _ _ => rfl⟩⟩
    cases A with
    | none =>
      have h0 : m = [] := by
        rcases hsrc with h0 | ⟨_, _, h0, _⟩
        · exact h0
        · cases h0
      rw [show m.length = 0 by rw [h0]; rfl]
      exact hnil h0
    | some ad =>
      obtain ⟨v', w', hr, h5, h6, _, _⟩ := run_append_own_at (P := Tryz.prog) w B 22 o.type 26 i _ 7 96 Tryz.underlying22 h1 h2 h3 h4 rfl (by omega) v l.length _ hO ad m.length cap _ (itL_len m) (fun j u hj => by
        rcases hsrc with h0 | ⟨b, off, h0, hc⟩
        · rw [h0] at hj; cases hj
        · cases h0
          rw [addr_off]
          exact hc j u hj) (itL_one m) (by unfold maxLen; omega) (by omega) hB
      refine ⟨v', w', hr, ?_, (Below.refl B w).grown h6 hB fun k hk => (World.ownsRow.lt hO k hk).1, h6⟩
      unfold OwnI
      rw [List.length_append, List.flatMap_append]
      exact h5
  obtain ⟨v', w', hrun, h5, h6, h7⟩ := key
  unfold Oper.wp execOp
  simp only [ho, resolve, invoke, builtin, Sem.run_bind, Sem.run_pure, Result.andThen_ok, List.map_toArray, List.map_cons, List.map_nil, hs, hx, hrun]
  exact h v' w' h5 h6 h7
theorem step_ai {w : World} {ops : Array Oper} {rest : List Oper} {o : Oper} {a : Act} {Q : Exit → Act → World → Prop} (hgd : Region.wanted o (yielded ops a.tmps) = true) (sl x : Operand)
    (ho : o.op = .call { callee := .builtin .append, args := #[sl, x], argTypes := #[22, 22] })
    (B : Nat) (v : Value) (l m : List Dg.It) (hs : a.eval sl = v) (hO : OwnI w B v l) (A : Option Addr) (n cap : Nat) (hx : a.eval x = .slice A n cap) (hn : m.length = n) (hsrc : SrcI w A m)
    (hlen : (l.length + n) * 96 ≤ 140737488355328) (hB : B ≤ w.heap.size)
    (h : ∀ v' w', OwnI w' B v' (l ++ m) → Below B w w' → w.grownBy w' v.ownBlock → wpList Tryz.prog ops Q rest (a.put o.dst v') w') : wpList Tryz.prog ops Q (o :: rest) a w :=
  wpList_wanted hgd fun _ hK => wp_ai sl x ho B v l m hs hO A n cap hx hn hsrc hlen hB fun v' w' h1 h2 h3 => hK _ _ (h v' w' h1 h2 h3)
end Go.Proofs.YtobhpeockinnjaaGreatDoor
/- Few of the reference, few of the laws. No conditions but those that each theorem states. -/
namespace Go.Proofs.YtobhpeockinnjaaGreatDoor
open Go Go.RowKit Go.Sort Go.Maps
/-- An item whose strings have at most 500 bytes. -/
def smallI (x : Dg.It) : Bool := decide (x.id.size ≤ 500) && decide (x.parent.size ≤ 500) && decide (x.number.size ≤ 500) && decide (x.north.size ≤ 500) && decide (x.south.size ≤ 500)
def fewC (l : List Dg.It) (m : Nat) : Bool := decide (l.length ≤ m) && (l.take m).all smallI
theorem smallI_iff (x : Dg.It) : smallI x = true ↔ x.id.size ≤ 500 ∧ x.parent.size ≤ 500 ∧ x.number.size ≤ 500 ∧ x.north.size ≤ 500 ∧ x.south.size ≤ 500 := by
  unfold smallI
  simp only [Bool.and_eq_true, decide_eq_true_eq, and_assoc]
theorem fewC_spec {l : List Dg.It} {m : Nat} (h : fewC l m = true) : l.length ≤ m ∧ ∀ x ∈ l, smallI x = true := by
  unfold fewC at h
  rw [Bool.and_eq_true, decide_eq_true_eq] at h
  refine ⟨h.1, fun x hx => ?_⟩
  rw [List.take_of_length_le h.1, List.all_eq_true] at h
  exact h.2 x hx
theorem small_fields {x : Dg.It} (h : smallI x = true) : ∀ s ∈ Dg.fieldsI x, s.size ≤ 500 := fun s hs => by
  obtain ⟨h1, h2, h3, h4, h5⟩ := (smallI_iff x).1 h
  unfold Dg.fieldsI at hs
  simp only [List.mem_cons, List.not_mem_nil, or_false] at hs
  rcases hs with rfl | rfl | rfl | rfl | rfl | rfl
  · unfold Dg.kindW; split <;> (try split) <;> decide
  · exact h1
  · exact h2
  · exact h3
  · exact h4
  · exact h5
theorem fewC_no {l : List Dg.It} {m k : Nat} (hk : k < l.length) (hm : k < m) (h : smallI l[k] = false) : fewC l m = false := by
  unfold fewC
  have : (l.take m).all smallI = false := by
    rw [List.all_eq_false]
    exact ⟨l[k], List.mem_take_iff_getElem.2 ⟨k, by omega, rfl⟩, by rw [h]; exact Bool.false_ne_true⟩
  rw [this, Bool.and_false]
theorem fewC_yes {l : List Dg.It} {m : Nat} (hm : l.length ≤ m) (h : ∀ x ∈ l, smallI x = true) : fewC l m = true := by
  unfold fewC
  rw [decide_eq_true hm, Bool.true_and, List.take_of_length_le hm, List.all_eq_true]
  exact h
theorem fewC_many {l : List Dg.It} {m : Nat} (hm : m < l.length) : fewC l m = false := by
  unfold fewC
  rw [decide_eq_false (by omega), Bool.false_and]
set_option maxRecDepth 100000 in
set_option maxHeartbeats 8000000 in
theorem rfew_of (l : List Dg.It) (A : Option Addr) (n c m : Nat) (hl : l.length = n) (hn : n ≤ 9223372036854775807) (hm : m ≤ 1000) (w : World) (hI : Its w w.heap.size A l) (R : Bool) (hR : fewC l m = R) :
    Calls Tryz.prog 41 #[.agg #[.slice A n c], .int .i64 (m : Int)] w fun e w' => e = .returned (.bool R) ∧ Below w.heap.size w w' := by
  have hx1 := Below.news (Below.refl w.heap.size w) (.cells #[.slice A n c] 24)
  have hrow := heap_alloc_new w (.cells #[.slice A n c] 24)
  have HL := hide hl; have HR := hide hR; have HI := hide hI
  clear hl hR hI
  go_enter Tryz.func41, Tryz.ntmps41
  go_wp2
  go_loopw [5] (fun iv wr => ∃ k : Nat, k ≤ n ∧ k ≤ m ∧ iv = .int .i64 (k : Int) ∧ Below w.heap.size w wr ∧ wr.heap[w.heap.size]? = some (.cells #[.slice A n c] 24 (0, 0)) ∧ Hid (∀ x ∈ l.take k, smallI x = true)) (fun iv _ => n - (intOf iv).toNat)
  case atStart => exact ⟨0, by omega, by omega, rfl, hx1, hrow, fun x hx => by simp at hx⟩
  case round =>
    obtain ⟨k, hk, hkm, rfl, hb, hr, hall⟩ := hrel
    clear hrow hx1
    have hc := iCells0 hr
    by_cases hlt : k < n
    · have hkn : (k : Int) < (n : Int) := by omega
      by_cases hlm : k < m
      · have hkm2 : (k : Int) < (m : Int) := by omega
        have hk0 : (0 : Int) ≤ (k : Int) := by omega
        have hkl : k < l.length := by rw [HL.out]; exact hlt
        have hIr := HI.out.below hb
        obtain ⟨b, off, rfl⟩ := hIr.some hkl
        obtain ⟨x, hx⟩ : ∃ x, l[k] = x := ⟨_, rfl⟩
        obtain ⟨hbl, p0, p1, p2, p3, p4, p5, p6⟩ := hIr.cells hkl x hx
        have HX := hide hx
        clear hx hIr
        have hx2 := Below.news (Below.refl wr.heap.size wr) (.cells #[.int .i64 x.kind, .string x.id, .string x.parent, .string x.number, .string x.north, .string x.south, .bool x.gone] 26)
        have hrx := heap_alloc_new wr (.cells #[.int .i64 x.kind, .string x.id, .string x.parent, .string x.number, .string x.north, .string x.south, .bool x.gone] 26)
        have hr2 := iNext hr hx2
        have hb2 := bnext hb hx2
        go_upto_region 5 with (fail)
        generalize wr.alloc (.cells #[.int .i64 x.kind, .string x.id, .string x.parent, .string x.number, .string x.north, .string x.south, .bool x.gone] 26) = w2 at *
        obtain ⟨c0, c1, c2, c3, c4, c5, c6⟩ := iCells hrx
        clear p0 p1 p2 p3 p4 p5 p6 hc hr hx2 hb
        by_cases s0 : (500 : Int) < (x.id.size : Int)
        · skip
          have E9 := hide (show false = R by rw [← HR.out]; exact (fewC_no hkl hlm (by rw [HX.out]; cases hs : smallI x with | false => rfl | true => exact absurd ((smallI_iff x).1 hs) (by omega))).symm)
          go_wp2
          go_ret
          exact ⟨ret_bool E9.out, hb2⟩
        by_cases s1 : (500 : Int) < (x.parent.size : Int)
        · skip
          have E9 := hide (show false = R by rw [← HR.out]; exact (fewC_no hkl hlm (by rw [HX.out]; cases hs : smallI x with | false => rfl | true => exact absurd ((smallI_iff x).1 hs) (by omega))).symm)
          go_wp2
          go_ret
          exact ⟨ret_bool E9.out, hb2⟩
        by_cases s2 : (500 : Int) < (x.number.size : Int)
        · skip
          have E9 := hide (show false = R by rw [← HR.out]; exact (fewC_no hkl hlm (by rw [HX.out]; cases hs : smallI x with | false => rfl | true => exact absurd ((smallI_iff x).1 hs) (by omega))).symm)
          go_wp2
          go_ret
          exact ⟨ret_bool E9.out, hb2⟩
        by_cases s3 : (500 : Int) < (x.north.size : Int)
        · skip
          have E9 := hide (show false = R by rw [← HR.out]; exact (fewC_no hkl hlm (by rw [HX.out]; cases hs : smallI x with | false => rfl | true => exact absurd ((smallI_iff x).1 hs) (by omega))).symm)
          go_wp2
          go_ret
          exact ⟨ret_bool E9.out, hb2⟩
        by_cases s4 : (500 : Int) < (x.south.size : Int)
        · skip
          have E9 := hide (show false = R by rw [← HR.out]; exact (fewC_no hkl hlm (by rw [HX.out]; cases hs : smallI x with | false => rfl | true => exact absurd ((smallI_iff x).1 hs) (by omega))).symm)
          go_wp2
          go_ret
          exact ⟨ret_bool E9.out, hb2⟩
        have HS := hide (show smallI x = true from (smallI_iff x).2 (by omega))
        go_wp2
        go_roundw
        case rel => exact ⟨k + 1, by omega, by omega, by go_num, hb2, hr2, fun y hy => by
          rw [List.take_succ_eq_append_getElem hkl, HX.out] at hy
          rcases List.mem_append.1 hy with h | h
          · exact hall.out y h
          · rw [List.mem_singleton.1 h]; exact HS.out⟩
        case measure => simp [intOf]; omega
      · obtain rfl : k = m := by omega
        have hkm2 : ¬ (k : Int) < (k : Int) := by omega
        have hnn : ¬ (n : Int) ≤ (k : Int) := by omega
        have hf := fewC_many (l := l) (m := k) (by rw [HL.out]; exact hlt)
        have e9 := HR.out
        rw [hf] at e9
        have E9 := hide e9
        clear hf e9
        go_wp2
        go_ret
        exact ⟨ret_bool E9.out, hb⟩
    · obtain rfl : k = n := by omega
      have hkn : ¬ (k : Int) < (k : Int) := by omega
      have hnn : (k : Int) ≤ (m : Int) := by omega
      have hf := fewC_yes (l := l) (m := m) (by rw [HL.out]; exact hkm) (by have h := hall.out; rw [← HL.out, List.take_length] at h; exact h)
      have e9 := HR.out
      rw [hf] at e9
      have E9 := hide e9
      clear hf e9
      go_wp2
      go_ret
      exact ⟨ret_bool E9.out, hb⟩
end Go.Proofs.YtobhpeockinnjaaGreatDoor
/- Fields of the reference for codes. No conditions but those that each theorem states. -/
namespace Go.Proofs.YtobhpeockinnjaaGreatDoor
open Go Go.RowKit Go.Sort Go.Maps
theorem grown_row {u u' : World} {own : Option Nat} {g : Nat} {o : Obj} (hg : u.grownBy u' own) (h : u.heap[g]? = some o) (hne : ∀ k, own = some k → k ≠ g) : u'.heap[g]? = some o :=
  (hg.block g (lt_of_block h) (fun e => hne g e.symm rfl)).trans h
theorem grown_up {B : Nat} {a u u' : World} {own : Option Nat} (hb : Below B a u) (hg : u.grownBy u' own) (hne : ∀ k, own = some k → B ≤ k) (hs : B ≤ a.heap.size := by omega) : Below B a u' :=
  hb.grown hg (Nat.le_trans hs hb.size) hne
theorem fields_snoc {l : List Dg.It} {k : Nat} (hk : k < l.length) : Dg.fieldsC (l.take (k + 1)) = Dg.fieldsC (l.take k) ++ [Dg.kindW l[k], l[k].id, l[k].parent, l[k].number, l[k].north, l[k].south] := by
  rw [List.take_succ_eq_append_getElem hk]
  unfold Dg.fieldsC
  rw [List.flatMap_append, List.flatMap_singleton]
  rfl
theorem fields_len (l : List Dg.It) : (Dg.fieldsC l).length = l.length * 6 := by
  induction l with
  | nil => rfl
  | cons x l ih =>
    show (Dg.fieldsI x ++ Dg.fieldsC l).length = _
    rw [List.length_append, ih, List.length_cons]
    show 6 + l.length * 6 = _
    omega
end Go.Proofs.YtobhpeockinnjaaGreatDoor
/- Small lemmas on strings. No conditions but those that each theorem states. -/
namespace Go.Proofs.YtobhpeockinnjaaGreatDoor
open Go Go.RowKit Go.Sort Go.Maps
theorem bs_iff (a b : ByteArray) : (a.toList == b.toList) = true ↔ a = b := by
  rw [beq_iff_eq]
  constructor
  · intro h
    rw [ByteArray.toList_eq, ByteArray.toList_eq] at h
    obtain ⟨⟨x⟩⟩ := a
    obtain ⟨⟨y⟩⟩ := b
    simpa using h
  · rintro rfl; rfl
theorem bs_yes {a b : ByteArray} (h : a = b) : (a.toList == b.toList) = true := (bs_iff a b).2 h
theorem bs_no {a b : ByteArray} (h : a ≠ b) : (a.toList == b.toList) = false := by
  cases e : a.toList == b.toList with
  | false => rfl
  | true => exact absurd ((bs_iff a b).1 e) h
theorem ret_intV {k : IntKind} {a b : Int} (h : a = b) : Ending.returned (.int k a) = .returned (.int k b) := by rw [h]
def sliceLen : Value → Nat
  | .slice _ n _ => n
  | _ => 0
end Go.Proofs.YtobhpeockinnjaaGreatDoor
/- Leaf of the reference, leaf of package proof. No conditions but those that each theorem states. -/
namespace Go.Proofs.YtobhpeockinnjaaGreatDoor
open Go Go.RowKit Go.Sort Go.Maps
def kindS (x : Dg.It) : ByteArray := if x.kind = 1 then Dg.sD else Dg.sA
def leafS (x : Dg.It) : List ByteArray := [kindS x, x.id, x.parent, x.north, x.south]
theorem leafI_eq (x : Dg.It) : Dg.leafI x = Dg.jB (leafS x) := rfl
theorem leafS_size {x : Dg.It} {z : Nat} (hz : 1 ≤ z) (h : ∀ s ∈ Dg.fieldsI x, s.size ≤ z) : ∀ s ∈ leafS x, s.size ≤ z := fun s hs => by
  unfold leafS at hs
  unfold Dg.fieldsI at h
  simp only [List.mem_cons, List.not_mem_nil, or_false] at hs h
  rcases hs with rfl | rfl | rfl | rfl | rfl
  · unfold kindS; split <;> exact hz
  · exact h _ (Or.inr (Or.inl rfl))
  · exact h _ (Or.inr (Or.inr (Or.inl rfl)))
  · exact h _ (Or.inr (Or.inr (Or.inr (Or.inr (Or.inl rfl)))))
  · exact h _ (Or.inr (Or.inr (Or.inr (Or.inr (Or.inr rfl)))))
set_option maxRecDepth 100000 in
set_option maxHeartbeats 4000000 in
theorem rleaf_of (x : Dg.It) (hz : ∀ s ∈ leafS x, s.size ≤ 1048576) (w : World) (K : ByteArray) (hK : Dg.leafI x = K) :
    Calls Tryz.prog 37 #[.agg #[.int .i64 x.kind, .string x.id, .string x.parent, .string x.number, .string x.north, .string x.south, .bool x.gone]] w fun e w' => e = .returned (.string K) ∧ Below w.heap.size w w' := by
  have hx1 := Below.news (Below.refl w.heap.size w) (.cells #[.int .i64 x.kind, .string x.id, .string x.parent, .string x.number, .string x.north, .string x.south, .bool x.gone] 26)
  have hrow := heap_alloc_new w (.cells #[.int .i64 x.kind, .string x.id, .string x.parent, .string x.number, .string x.north, .string x.south, .bool x.gone] 26)
  have HZ := hide hz; have HK := hide hK
  clear hz hK
  obtain ⟨c0, c1, c2, c3, c4, c5, c6⟩ := iCells hrow
  go_enter Tryz.func37, Tryz.ntmps37
  by_cases kz : x.kind = 1
  · have kb : (x.kind == 1) = true := beq_iff_eq.2 kz
    have ek : kindS x = ⟨#[100]⟩ := if_pos kz
    have HJ := hide (joined_new (leafS x) #[.string ⟨#[100]⟩, .string x.id, .string x.parent, .string x.north, .string x.south] 9 5 5 rfl (by show 5 ≤ 8; decide) HZ.out K HK.out (w.alloc (.cells #[.int .i64 x.kind, .string x.id, .string x.parent, .string x.number, .string x.north, .string x.south, .bool x.gone] 26)) (by unfold leafS; rw [ek]; rfl) (w.heap.size + 1) (by simp))
    clear kz ek
    go_wp2_with fail
    refine HJ.out.mono ?_
    rintro e w2 ⟨rfl, hb⟩
    have hb2 := bnext hx1 hb
    clear hb HJ
    go_wp2
    go_ret
    exact ⟨rfl, hb2⟩
  · have kb : (x.kind == 1) = false := beq_eq_false_iff_ne.2 kz
    have ek : kindS x = ⟨#[97]⟩ := if_neg kz
    have HJ := hide (joined_new (leafS x) #[.string ⟨#[97]⟩, .string x.id, .string x.parent, .string x.north, .string x.south] 9 5 5 rfl (by show 5 ≤ 8; decide) HZ.out K HK.out (w.alloc (.cells #[.int .i64 x.kind, .string x.id, .string x.parent, .string x.number, .string x.north, .string x.south, .bool x.gone] 26)) (by unfold leafS; rw [ek]; rfl) (w.heap.size + 1) (by simp))
    clear kz ek
    go_wp2_with fail
    refine HJ.out.mono ?_
    rintro e w2 ⟨rfl, hb⟩
    have hb2 := bnext hx1 hb
    clear hb HJ
    go_wp2
    go_ret
    exact ⟨rfl, hb2⟩
theorem appendInt_of (B : Nat) (l : List UInt8) (n : Nat) (hn : n ≤ 9223372036854775807) (v : Value) (w : World) (hO : OwnB w B v l) (hB : B ≤ w.heap.size) (hl : l.length + 21 ≤ 140737488355328) (hT : Lib.TabBelow Tryz.prog B w "internal/strconv.uint64pow10" .u64 Lib.pow10Tab) :
    Calls Tryz.prog 92 #[v, .int .i64 (n : Int), .int .i64 10] w fun e w' => ∃ v', e = .returned v' ∧ OwnB w' B v' (l ++ Dg.L (decB n)) ∧ Below B w w' := by
  refine (Tryz.strconv_AppendInt_10 B l.length n (by omega) (by omega) v _ w hO hB hl hT).mono ?_
  rintro e w' ⟨v', rfl, h1, h2, _⟩
  refine ⟨v', rfl, ?_, h2⟩
  have e1 : Lib.itoa (n : Int) = Dg.L (decB n) := by
    unfold Lib.itoa decB
    rw [if_neg (by omega), Int.toNat_natCast, Dg.L_B]
  unfold OwnB
  rw [List.length_append, Lib.byteCells_append, ← e1]
  exact h1
set_option maxRecDepth 100000 in
theorem tabB {w : World} (he : Env w) : Lib.TabBelow Tryz.prog w.heap.size w "internal/strconv.uint64pow10" .u64 Lib.pow10Tab := Lib.tabBelow_of_tabIs he
set_option maxHeartbeats 8000000 in
theorem pleaf_of (x : Dg.It) (hz : ∀ s ∈ leafS x, s.size ≤ 1048576) (w : World) (he : Env w) (K : ByteArray) (hK : Dg.leafI x = K) :
    Calls Tryz.prog 50 #[.agg #[.int .i64 x.kind, .string x.id, .string x.parent, .string x.number, .string x.north, .string x.south, .bool x.gone]] w fun e w' => e = .returned (.string K) ∧ Below w.heap.size w w' := by
  have hx1 := Below.news (Below.refl w.heap.size w) (.cells #[.int .i64 x.kind, .string x.id, .string x.parent, .string x.number, .string x.north, .string x.south, .bool x.gone] 26)
  have hrow := heap_alloc_new w (.cells #[.int .i64 x.kind, .string x.id, .string x.parent, .string x.number, .string x.north, .string x.south, .bool x.gone] 26)
  have HZ := hide hz; have HK := hide hK
  clear hz hK
  obtain ⟨c0, c1, c2, c3, c4, c5, c6⟩ := iCells hrow
  have hlf : leafS x = [kindS x, x.id, x.parent, x.north, x.south] := rfl
  have HLF := hide hlf
  go_enter Tryz.func50, Tryz.ntmps50
  by_cases kz : x.kind = 1
  · have kb : (x.kind == 1) = true := beq_iff_eq.2 kz
    have ek : kindS x = ⟨#[100]⟩ := if_pos kz
    rw [ek] at hlf
    have HS := hide (Strs.new (w.alloc (.cells #[.int .i64 x.kind, .string x.id, .string x.parent, .string x.number, .string x.north, .string x.south, .bool x.gone] 26)) (leafS x) #[.string ⟨#[100]⟩, .string x.id, .string x.parent, .string x.north, .string x.south] 9 (by rw [hlf]; rfl))
    have hx2 := Below.news (Below.refl (w.alloc (.cells #[.int .i64 x.kind, .string x.id, .string x.parent, .string x.number, .string x.north, .string x.south, .bool x.gone] 26)).heap.size (w.alloc (.cells #[.int .i64 x.kind, .string x.id, .string x.parent, .string x.number, .string x.north, .string x.south, .bool x.gone] 26))) (.cells #[.string ⟨#[100]⟩, .string x.id, .string x.parent, .string x.north, .string x.south] 9)
    have hb0 := bnext hx1 hx2
    have HT := hide (tabB (he.next hb0))
    have hs2 : (w.alloc (.cells #[.int .i64 x.kind, .string x.id, .string x.parent, .string x.number, .string x.north, .string x.south, .bool x.gone] 26)).heap.size = w.heap.size + 1 := by simp
    rw [hs2] at HS
    clear kz ek hlf hs2 hx2
    go_wp2
    generalize (w.alloc (.cells #[.int .i64 x.kind, .string x.id, .string x.parent, .string x.number, .string x.north, .string x.south, .bool x.gone] 26)).alloc (.cells #[.string ⟨#[100]⟩, .string x.id, .string x.parent, .string x.north, .string x.south] 9) = w2 at *
    clear c0 c1 c2 c3 c4 c5 c6 hrow hx1
    go_loopw [4, 21] (fun v iv wr => ∃ k : Nat, k ≤ 5 ∧ iv = .int .i64 (k : Int) ∧ Below w2.heap.size w2 wr ∧ OwnB wr w2.heap.size v (Dg.joinedL ((leafS x).take k))) (fun _ iv _ => 5 - (intOf iv).toNat)
    case atStart => exact ⟨0, by omega, rfl, Below.refl _ _, World.ownsRow_nil _ _ _ 1⟩
    case round =>
      obtain ⟨k, hk, rfl, hb, hO⟩ := hrel
      have hz1 := hb.size
      by_cases hlt : k < 5
      · have hkl : k < (leafS x).length := hlt
        have hk5 : (k : Int) < 5 := by omega
        have hk0 : (0 : Int) ≤ (k : Int) := by omega
        obtain ⟨b, off, eA, hbl, hcell⟩ := (HS.out.below hb).get hkl
        cases eA
        have hsz := HZ.out (leafS x)[k] (List.getElem_mem hkl)
        have hst := hide (joinedL_step (leafS x) k hkl (by omega))
        have hle := Dg.joinedL_len_le ((leafS x).take k) 1048576 (fun s hs => HZ.out s (List.mem_of_mem_take hs))
        have hle2 : ((leafS x).take k).length ≤ 5 := by rw [List.length_take]; omega
        have hle3 : (Dg.joinedL ((leafS x).take k)).length ≤ 5 * (1048576 + 21) := Nat.le_trans hle (Nat.mul_le_mul_right _ hle2)
        clear hle hle2
        obtain ⟨y, hy⟩ : ∃ y, (leafS x)[k] = y := ⟨_, rfl⟩
        rw [hy] at hcell hsz hst
        rw [Nat.zero_add] at hcell
        have HT2 := hide (HT.out.on hb)
        have hd := decB_size y.size (by omega)
        clear hy
        go_wp2_with fail
        refine (appendInt_of w2.heap.size _ y.size (by omega) _ wr hO hz1 (by omega) HT2.out).mono ?_
        rintro e w3 ⟨v3, rfl, hO3, hb3⟩
        have hz3 := hb3.size
        clear hcell HT2 hO
        go_wp2_with (first
          | (at_builtin; refine step_byte w3 rfl (.tmp 28) (.tmp 29) rfl 58 _ rfl w2.heap.size _ _ rfl hO3 rfl ?_ ?_ ?_; rw [List.length_append, Dg.len_L]; omega; omega; intro v4 w4 hO4 hb4; have hz4 := hb4.size)
          | (at_builtin; refine step_str _ rfl (.tmp 31) (.tmp 32) rfl w2.heap.size _ _ rfl hO4 y rfl ?_ ?_ ?_; rw [List.length_append, List.length_append, Dg.len_L]; simp; omega; omega; intro v5 w5 hO5 hb5; have hz5 := hb5.size)
          | fail)
        rw [hst.out] at hO5
        have hb6 := ((hb.trans hb3).trans hb4).trans hb5
        go_roundw
        case rel => exact ⟨k + 1, by omega, by go_num, hb6, hO5⟩
        case measure => simp [intOf]; omega
      · obtain rfl : k = 5 := by omega
        have e5 : (leafS x).take 5 = leafS x := rfl
        rw [e5] at hO
        obtain ⟨A', c', rfl⟩ := hO.form
        have hcv := conv_own (P := Tryz.prog) 125 9 hO (by kernel_rfl) (by kernel_rfl)
        rw [show Dg.B (Dg.joinedL (leafS x)) = K from HK.out] at hcv
        go_wp2
        go_ret
        exact ⟨rfl, bnext hb0 hb⟩
  · have kb : (x.kind == 1) = false := beq_eq_false_iff_ne.2 kz
    have ek : kindS x = ⟨#[97]⟩ := if_neg kz
    rw [ek] at hlf
    have HS := hide (Strs.new (w.alloc (.cells #[.int .i64 x.kind, .string x.id, .string x.parent, .string x.number, .string x.north, .string x.south, .bool x.gone] 26)) (leafS x) #[.string ⟨#[97]⟩, .string x.id, .string x.parent, .string x.north, .string x.south] 9 (by rw [hlf]; rfl))
    have hx2 := Below.news (Below.refl (w.alloc (.cells #[.int .i64 x.kind, .string x.id, .string x.parent, .string x.number, .string x.north, .string x.south, .bool x.gone] 26)).heap.size (w.alloc (.cells #[.int .i64 x.kind, .string x.id, .string x.parent, .string x.number, .string x.north, .string x.south, .bool x.gone] 26))) (.cells #[.string ⟨#[97]⟩, .string x.id, .string x.parent, .string x.north, .string x.south] 9)
    have hb0 := bnext hx1 hx2
    have HT := hide (tabB (he.next hb0))
    have hs2 : (w.alloc (.cells #[.int .i64 x.kind, .string x.id, .string x.parent, .string x.number, .string x.north, .string x.south, .bool x.gone] 26)).heap.size = w.heap.size + 1 := by simp
    rw [hs2] at HS
    clear kz ek hlf hs2 hx2
    go_wp2
    generalize (w.alloc (.cells #[.int .i64 x.kind, .string x.id, .string x.parent, .string x.number, .string x.north, .string x.south, .bool x.gone] 26)).alloc (.cells #[.string ⟨#[97]⟩, .string x.id, .string x.parent, .string x.north, .string x.south] 9) = w2 at *
    clear c0 c1 c2 c3 c4 c5 c6 hrow hx1
    go_loopw [4, 21] (fun v iv wr => ∃ k : Nat, k ≤ 5 ∧ iv = .int .i64 (k : Int) ∧ Below w2.heap.size w2 wr ∧ OwnB wr w2.heap.size v (Dg.joinedL ((leafS x).take k))) (fun _ iv _ => 5 - (intOf iv).toNat)
    case atStart => exact ⟨0, by omega, rfl, Below.refl _ _, World.ownsRow_nil _ _ _ 1⟩
    case round =>
      obtain ⟨k, hk, rfl, hb, hO⟩ := hrel
      have hz1 := hb.size
      by_cases hlt : k < 5
      · have hkl : k < (leafS x).length := hlt
        have hk5 : (k : Int) < 5 := by omega
        have hk0 : (0 : Int) ≤ (k : Int) := by omega
        obtain ⟨b, off, eA, hbl, hcell⟩ := (HS.out.below hb).get hkl
        cases eA
        have hsz := HZ.out (leafS x)[k] (List.getElem_mem hkl)
        have hst := hide (joinedL_step (leafS x) k hkl (by omega))
        have hle := Dg.joinedL_len_le ((leafS x).take k) 1048576 (fun s hs => HZ.out s (List.mem_of_mem_take hs))
        have hle2 : ((leafS x).take k).length ≤ 5 := by rw [List.length_take]; omega
        have hle3 : (Dg.joinedL ((leafS x).take k)).length ≤ 5 * (1048576 + 21) := Nat.le_trans hle (Nat.mul_le_mul_right _ hle2)
        clear hle hle2
        obtain ⟨y, hy⟩ : ∃ y, (leafS x)[k] = y := ⟨_, rfl⟩
        rw [hy] at hcell hsz hst
        rw [Nat.zero_add] at hcell
        have HT2 := hide (HT.out.on hb)
        have hd := decB_size y.size (by omega)
        clear hy
        go_wp2_with fail
        refine (appendInt_of w2.heap.size _ y.size (by omega) _ wr hO hz1 (by omega) HT2.out).mono ?_
        rintro e w3 ⟨v3, rfl, hO3, hb3⟩
        have hz3 := hb3.size
        clear hcell HT2 hO
        go_wp2_with (first
          | (at_builtin; refine step_byte w3 rfl (.tmp 28) (.tmp 29) rfl 58 _ rfl w2.heap.size _ _ rfl hO3 rfl ?_ ?_ ?_; rw [List.length_append, Dg.len_L]; omega; omega; intro v4 w4 hO4 hb4; have hz4 := hb4.size)
          | (at_builtin; refine step_str _ rfl (.tmp 31) (.tmp 32) rfl w2.heap.size _ _ rfl hO4 y rfl ?_ ?_ ?_; rw [List.length_append, List.length_append, Dg.len_L]; simp; omega; omega; intro v5 w5 hO5 hb5; have hz5 := hb5.size)
          | fail)
        rw [hst.out] at hO5
        have hb6 := ((hb.trans hb3).trans hb4).trans hb5
        go_roundw
        case rel => exact ⟨k + 1, by omega, by go_num, hb6, hO5⟩
        case measure => simp [intOf]; omega
      · obtain rfl : k = 5 := by omega
        have e5 : (leafS x).take 5 = leafS x := rfl
        rw [e5] at hO
        obtain ⟨A', c', rfl⟩ := hO.form
        have hcv := conv_own (P := Tryz.prog) 125 9 hO (by kernel_rfl) (by kernel_rfl)
        rw [show Dg.B (Dg.joinedL (leafS x)) = K from HK.out] at hcv
        go_wp2
        go_ret
        exact ⟨rfl, bnext hb0 hb⟩
end Go.Proofs.YtobhpeockinnjaaGreatDoor
/- Message of package proof and of the reference. No conditions but those that each theorem states. -/
namespace Go.Proofs.YtobhpeockinnjaaGreatDoor
open Go Go.RowKit Go.Sort Go.Maps
/-- The digits of a whole number. -/
def itoaB (n : Int) : ByteArray := Dg.B (Lib.itoa n)
theorem itoaZ_of (n : Int) (h0 : -9223372036854775808 ≤ n) (h1 : n ≤ 9223372036854775807) (R : ByteArray) (hR : itoaB n = R) (w : World) (he : Env w) :
    Calls Tryz.prog 53 #[.int .i64 n] w fun e w' => e = .returned (.string R) ∧ Below w.heap.size w w' := by
  subst hR
  refine (Tryz.strconv_Itoa n h0 h1 w he).mono ?_
  rintro e w' ⟨rfl, j, os, rfl⟩
  exact ⟨rfl, below_grown _ _ _⟩
theorem itoaB_size (n : Int) (h0 : -9223372036854775808 ≤ n) (h1 : n ≤ 9223372036854775807) : (itoaB n).size ≤ 21 := by
  unfold itoaB Lib.itoa
  rw [Dg.size_B]
  have key : ∀ m : Nat, m ≤ 9223372036854775808 → (Lib.decDigits m).length ≤ 20 := fun m hm => by
    rw [← decF_eq 20 m (by omega) (by omega)]
    exact Dg.dec_len m
  split
  · have := key n.natAbs (by omega)
    rw [List.length_cons]
    omega
  · have := key n.toNat (by omega)
    omega
/-- What an office signs about a day. -/
def rootW : ByteArray := ⟨#[114, 111, 111, 116]⟩
def msgS (day count : Int) (root : ByteArray) : List ByteArray := [rootW, itoaB day, itoaB count, root]
def msgB (day count : Int) (root : ByteArray) : ByteArray := Dg.listB (msgS day count root)
theorem msgB_size (day count : Int) (root : ByteArray) : (msgB day count root).size = 16 := listB_size _
theorem msgS_size {day count : Int} {root : ByteArray} (h0 : -9223372036854775808 ≤ day) (h1 : day ≤ 9223372036854775807) (k0 : -9223372036854775808 ≤ count) (k1 : count ≤ 9223372036854775807) {z : Nat} (hz : 21 ≤ z) (hr : root.size ≤ z) : ∀ s ∈ msgS day count root, s.size ≤ z := fun s hs => by
  unfold msgS at hs
  simp only [List.mem_cons, List.not_mem_nil, or_false] at hs
  rcases hs with rfl | rfl | rfl | rfl
  · exact Nat.le_trans (by decide : rootW.size ≤ 21) hz
  · exact Nat.le_trans (itoaB_size _ h0 h1) hz
  · exact Nat.le_trans (itoaB_size _ k0 k1) hz
  · exact hr
set_option maxRecDepth 100000 in
set_option maxHeartbeats 4000000 in
theorem pmsg_of (day count : Int) (root : ByteArray) (h0 : -9223372036854775808 ≤ day) (h1 : day ≤ 9223372036854775807) (k0 : -9223372036854775808 ≤ count) (k1 : count ≤ 9223372036854775807) (hr : root.size ≤ 1048576) (R : ByteArray) (hR : msgB day count root = R) (w : World) (he : Env w) :
    Calls Tryz.prog 19 #[.int .i64 day, .int .i64 count, .string root] w fun e w' => e = .returned (.string R) ∧ Below w.heap.size w w' := by
  have HE := hide he; have HR := hide hR
  clear he hR
  go_enter Tryz.func19, Tryz.ntmps19
  go_wp2_with fail
  obtain ⟨D, hD⟩ : ∃ D, itoaB day = D := ⟨_, rfl⟩
  refine (itoaZ_of day h0 h1 D hD w HE.out).mono ?_
  rintro e w2 ⟨rfl, hb2⟩
  go_wp2_with fail
  obtain ⟨C, hC⟩ : ∃ C, itoaB count = C := ⟨_, rfl⟩
  refine (itoaZ_of count k0 k1 C hC w2 (HE.out.next hb2)).mono ?_
  rintro e w3 ⟨rfl, hb3⟩
  have hb := bnext hb2 hb3
  have hms := msgS_size (root := root) h0 h1 k0 k1 (z := 1073741824) (by decide) (by omega)
  have HJ := hide (list_new (msgS day count root) #[.string ⟨#[114, 111, 111, 116]⟩, .string D, .string C, .string root] 9 4 4 rfl (by show 4 ≤ 8; decide) hms R HR.out w3 (HE.out.next hb) (by unfold msgS rootW; rw [hD, hC]; rfl) w3.heap.size rfl)
  clear hb2 hb3 hms hD hC
  go_wp2_with fail
  refine HJ.out.mono ?_
  rintro e w4 ⟨rfl, hb4⟩
  have hb5 := bnext hb hb4
  clear hb4 hb HJ
  go_wp2
  go_ret
  exact ⟨rfl, hb5⟩
theorem digit_at (d : Nat) (hd : d < 10) : (⟨#[48, 49, 50, 51, 52, 53, 54, 55, 56, 57]⟩ : ByteArray).extract d (d + 1) = ⟨#[UInt8.ofNat (48 + d)]⟩ := by
  match d, hd with
  | 0, _ => rfl
  | 1, _ => rfl
  | 2, _ => rfl
  | 3, _ => rfl
  | 4, _ => rfl
  | 5, _ => rfl
  | 6, _ => rfl
  | 7, _ => rfl
  | 8, _ => rfl
  | 9, _ => rfl
theorem itoa_neg_one (m : Nat) (h0 : 0 < m) (h : m < 10) : itoaB (-(m : Int)) = ⟨#[45]⟩ ++ ⟨#[UInt8.ofNat (48 + m)]⟩ := by
  unfold itoaB Lib.itoa
  rw [if_pos (by omega), Int.natAbs_neg, Int.natAbs_natCast, Lib.decDigits, dif_pos h]
  rfl
theorem itoa_neg_more (m : Nat) (h : 10 ≤ m) : itoaB (-(m : Int)) = itoaB (-((m / 10 : Nat) : Int)) ++ ⟨#[UInt8.ofNat (48 + m % 10)]⟩ := by
  unfold itoaB Lib.itoa
  rw [if_pos (by omega), if_pos (by omega), Int.natAbs_neg, Int.natAbs_natCast, Int.natAbs_neg, Int.natAbs_natCast, Lib.decDigits, dif_neg (by omega)]
  apply Dg.L_inj
  rw [Dg.L_B, L_app, Dg.L_B]
  rfl
set_option maxRecDepth 100000 in
set_option maxHeartbeats 4000000 in
theorem rdecZ_neg (m : Nat) : ∀ (n : Int) (w : World) (R : ByteArray), n = -(m : Int) → 0 < m → m ≤ 9223372036854775808 → itoaB n = R →
    Calls Tryz.prog 55 #[.int .i64 n] w fun e w' => e = .returned (.string R) ∧ w' = w := by
  induction m using Nat.strongRecOn with
  | _ m ih =>
  intro n w R hn h0 hm hR
  obtain ⟨d, hd⟩ : ∃ d, m % 10 = d := ⟨_, rfl⟩
  obtain ⟨q, hq⟩ : ∃ q, m / 10 = q := ⟨_, rfl⟩
  have hd10 : d < 10 := by omega
  have hmq : m = 10 * q + d := by omega
  have ht : n.tmod 10 = -(d : Int) := by rw [hn, Int.neg_tmod, ← hd]; rfl
  have hv : n.tdiv 10 = -(q : Int) := by rw [hn, Int.neg_tdiv, ← hq]; rfl
  have hlt : ¬ (0 : Int) ≤ n := by omega
  have hw1 : IntKind.i64.wrap (d : Int) = (d : Int) := IntWalk.i64_in _ (by omega)
  have hw2 : IntKind.i64.wrap (1 + (d : Int)) = ((d + 1 : Nat) : Int) := by rw [IntWalk.i64_in _ (by omega)]; omega
  have hw3 : IntKind.i64.wrap (-(q : Int)) = -(q : Int) := IntWalk.i64_in _ (by omega)
  have hx := digit_at d hd10
  have hs1 : (1 : Int) + (d : Int) = ((d + 1 : Nat) : Int) := by omega
  have HN := hide hn; have HR := hide hR; have HQ := hide hq; have HD := hide hd; have IH := hide ih; have HX := hide hx
  clear hn hR hq hd ih hx
  have hd0 : (0 : Int) ≤ (d : Int) := by omega
  have hd9 : (d : Int) ≤ 10 := by omega
  have hd8 : ((d + 1 : Nat) : Int) ≤ 10 := by omega
  go_enter Tryz.func55, Tryz.ntmps55
  go_upto_region 4 with (fail)
  obtain ⟨s, hs⟩ : ∃ s, (⟨#[48, 49, 50, 51, 52, 53, 54, 55, 56, 57]⟩ : ByteArray).extract d (d + 1) = s := ⟨_, rfl⟩
  have hsx : s = ⟨#[UInt8.ofNat (48 + d)]⟩ := by rw [← hs]; exact HX.out
  rw [hs]
  have hsz : s.size ≤ 1 := by rw [hsx]; exact Nat.le_refl _
  have HS := hide hsx
  clear hs hsx ht hw1 hw2 hw3 hs1
  by_cases hq0 : q = 0
  · have hv0 : n.tdiv 10 = 0 := by rw [hv, hq0]; rfl
    have E9 := hide (show (⟨#[45]⟩ : ByteArray) ++ s = R by
      rw [← HR.out, HN.out, HS.out, itoa_neg_one m h0 (by omega)]
      rw [show m = d by omega])
    clear hv hq0
    go_wp2
    go_ret
    exact ⟨ret_str E9.out, rfl⟩
  · have hq1 : (-(q : Int) == 0) = false := beq_eq_false_iff_ne.2 (by omega)
    have hw3 : IntKind.i64.wrap (-(q : Int)) = -(q : Int) := IntWalk.i64_in _ (by omega)
    have hqi : ¬ (q : Int) = 0 := by omega
    obtain ⟨T, hT⟩ : ∃ T, itoaB (-(q : Int)) = T := ⟨_, rfl⟩
    have hTz : T.size ≤ 21 := by rw [← hT]; exact itoaB_size _ (by omega) (by omega)
    have HC := hide (IH.out q (by omega) (-(q : Int)) w T rfl (by omega) (by omega) hT)
    have E9 := hide (show T ++ s = R by
      rw [← HR.out, HN.out, HS.out, itoa_neg_more m (by omega), HQ.out, hT, HD.out])
    clear hT
    go_wp2_with fail
    refine HC.out.mono ?_
    rintro e w2 ⟨rfl, rfl⟩
    clear HC
    go_wp2
    go_ret
    exact ⟨ret_str E9.out, rfl⟩
theorem rdecZ_of (n : Int) (h0 : -9223372036854775808 ≤ n) (h1 : n ≤ 9223372036854775807) (R : ByteArray) (hR : itoaB n = R) (w : World) :
    Calls Tryz.prog 55 #[.int .i64 n] w fun e w' => e = .returned (.string R) ∧ w' = w := by
  by_cases hn : n < 0
  · exact rdecZ_neg n.natAbs n w R (by omega) (by omega) (by omega) hR
  · obtain ⟨k, rfl⟩ := Int.eq_ofNat_of_zero_le (show 0 ≤ n by omega)
    have hR' : decB k = R := by
      rw [← hR]
      unfold itoaB decB Lib.itoa
      rw [if_neg (by omega), Int.toNat_natCast]
    have hk : (0 : Int) ≤ (k : Int) := by omega
    have HR := hide hR'
    clear hR hR' hn
    go_enter Tryz.func55, Tryz.ntmps55
    go_wp2_with fail
    refine (decimal_any k (by omega) w).mono ?_
    rintro e w2 ⟨rfl, rfl⟩
    go_wp2
    go_ret
    exact ⟨ret_str HR.out, rfl⟩
set_option maxRecDepth 100000 in
set_option maxHeartbeats 4000000 in
theorem rmsg_of (day count : Int) (root : ByteArray) (h0 : -9223372036854775808 ≤ day) (h1 : day ≤ 9223372036854775807) (k0 : -9223372036854775808 ≤ count) (k1 : count ≤ 9223372036854775807) (hr : root.size ≤ 1048576) (R : ByteArray) (hR : msgB day count root = R) (w : World) :
    Calls Tryz.prog 20 #[.int .i64 day, .int .i64 count, .string root] w fun e w' => e = .returned (.string R) ∧ Below w.heap.size w w' := by
  have HR := hide hR
  clear hR
  go_enter Tryz.func20, Tryz.ntmps20
  go_wp2_with fail
  obtain ⟨D, hD⟩ : ∃ D, itoaB day = D := ⟨_, rfl⟩
  refine (rdecZ_of day h0 h1 D hD w).mono ?_
  rintro e w2 ⟨rfl, rfl⟩
  go_wp2_with fail
  obtain ⟨C, hC⟩ : ∃ C, itoaB count = C := ⟨_, rfl⟩
  refine (rdecZ_of count k0 k1 C hC w2).mono ?_
  rintro e w3 ⟨rfl, rfl⟩
  have hms := msgS_size (root := root) h0 h1 k0 k1 (z := 1048576) (by decide) hr
  have HJ := hide (rlist_new (msgS day count root) #[.string ⟨#[114, 111, 111, 116]⟩, .string D, .string C, .string root] 9 4 4 rfl (by show 4 ≤ 8; decide) hms R HR.out w3 (by unfold msgS rootW; rw [hD, hC]; rfl) w3.heap.size rfl)
  clear hms hD hC
  go_wp2_with fail
  refine HJ.out.mono ?_
  rintro e w4 ⟨rfl, hb4⟩
  clear HJ
  go_wp2
  go_ret
  exact ⟨rfl, hb4⟩
end Go.Proofs.YtobhpeockinnjaaGreatDoor
/- Proofs in memory. No conditions but those that each theorem states. -/
namespace Go.Proofs.YtobhpeockinnjaaGreatDoor
open Go Go.RowKit Go.Sort Go.Maps
/-- A proof. -/
structure Pf where
  count : Int
  idx : Int
  it : Dg.It
  path : List ByteArray
theorem jCells10 {w : World} {g : Nat} {a0 a1 a2 a3 a4 a5 a6 a7 a8 a9 : Value} {T : TypeId} (h : w.heap[g]? = some (.cells #[a0, a1, a2, a3, a4, a5, a6, a7, a8, a9] T (0, 0))) :
    w.cell? ⟨g, 0, none⟩ = some a0 ∧ w.cell? ⟨g, 1, none⟩ = some a1 ∧ w.cell? ⟨g, 2, none⟩ = some a2 ∧ w.cell? ⟨g, 3, none⟩ = some a3 ∧ w.cell? ⟨g, 4, none⟩ = some a4 ∧ w.cell? ⟨g, 5, none⟩ = some a5 ∧ w.cell? ⟨g, 6, none⟩ = some a6 ∧ w.cell? ⟨g, 7, none⟩ = some a7 ∧ w.cell? ⟨g, 8, none⟩ = some a8 ∧ w.cell? ⟨g, 9, none⟩ = some a9 := by
  refine ⟨?_, ?_, ?_, ?_, ?_, ?_, ?_, ?_, ?_, ?_⟩ <;> (rw [cell_of_row _ _ _ _ _ (0, 0) h]; rfl)
theorem cProof : Tryz.prog.cellsOf 29 = 10 := by kernel_rfl
/-- A proof in its variable, its item in another one, its path. -/
structure PS (b1 b2 : Nat) (p : Pf) (A : Option Addr) (m c : Nat) (X : World) : Prop where
  r1 : X.heap[b1]? = some (.cells #[.int .i64 p.count, .int .i64 p.idx, .int .i64 p.it.kind, .string p.it.id, .string p.it.parent, .string p.it.number, .string p.it.north, .string p.it.south, .bool p.it.gone, .slice A m c] 29 (0, 0))
  r2 : X.heap[b2]? = some (.cells #[.int .i64 p.it.kind, .string p.it.id, .string p.it.parent, .string p.it.number, .string p.it.north, .string p.it.south, .bool p.it.gone] 26 (0, 0))
  path : Strs X X.heap.size A p.path
theorem PS.below {b1 b2 : Nat} {p : Pf} {A : Option Addr} {m c : Nat} {X X' : World} (h : PS b1 b2 p A m c X) (hb : Below X.heap.size X X') : PS b1 b2 p A m c X' := ⟨iNext h.r1 hb, iNext h.r2 hb, keepS h.path hb⟩
/-- Whether a proof holds. -/
def kindOk (x : Dg.It) : Bool := (x.kind == 2) || (x.kind == 1)
def checkP (root : ByteArray) (p : Pf) : Bool := kindOk p.it && (decide (p.it.number = Dg.nil8) && (!p.it.gone && checkB root p.count p.idx (Dg.leafI p.it) p.path))
theorem checkP_kind {root : ByteArray} {p : Pf} (h : kindOk p.it = false) : checkP root p = false := by unfold checkP; rw [h, Bool.false_and]
theorem checkP_num {root : ByteArray} {p : Pf} (h : decide (p.it.number = Dg.nil8) = false) : checkP root p = false := by unfold checkP; rw [h, Bool.false_and, Bool.and_false]
theorem checkP_gone {root : ByteArray} {p : Pf} (h : p.it.gone = true) : checkP root p = false := by unfold checkP; rw [h, Bool.not_true, Bool.false_and, Bool.and_false, Bool.and_false]
theorem checkP_rest {root : ByteArray} {p : Pf} (h1 : kindOk p.it = true) (h2 : decide (p.it.number = Dg.nil8) = true) (h3 : p.it.gone = false) : checkP root p = checkB root p.count p.idx (Dg.leafI p.it) p.path := by unfold checkP; rw [h1, h2, h3]; rfl
theorem pleaf_g (x : Dg.It) (g : Bool) (hz : ∀ s ∈ leafS x, s.size ≤ 1048576) (w : World) (he : Env w) (K : ByteArray) (hK : Dg.leafI x = K) :
    Calls Tryz.prog 50 #[.agg #[.int .i64 x.kind, .string x.id, .string x.parent, .string x.number, .string x.north, .string x.south, .bool g]] w fun e w' => e = .returned (.string K) ∧ Below w.heap.size w w' :=
  pleaf_of ⟨x.kind, x.id, x.parent, x.number, x.north, x.south, g⟩ hz w he K hK
theorem rleaf_g (x : Dg.It) (g : Bool) (hz : ∀ s ∈ leafS x, s.size ≤ 1048576) (w : World) (K : ByteArray) (hK : Dg.leafI x = K) :
    Calls Tryz.prog 37 #[.agg #[.int .i64 x.kind, .string x.id, .string x.parent, .string x.number, .string x.north, .string x.south, .bool g]] w fun e w' => e = .returned (.string K) ∧ Below w.heap.size w w' :=
  rleaf_of ⟨x.kind, x.id, x.parent, x.number, x.north, x.south, g⟩ hz w K hK
theorem leafI_size {x : Dg.It} (h : ∀ s ∈ leafS x, s.size ≤ 1048576) : (Dg.leafI x).size ≤ 5242985 := by
  rw [leafI_eq]
  unfold Dg.jB
  rw [Dg.size_B]
  exact Nat.le_trans (Dg.joinedL_len_le _ 1048576 h) (by show 5 * (1048576 + 21) ≤ _; decide)
theorem leafI_size2 {x : Dg.It} (h : ∀ s ∈ leafS x, s.size ≤ 10000) : (Dg.leafI x).size ≤ 1048576 := by
  rw [leafI_eq]
  unfold Dg.jB
  rw [Dg.size_B]
  exact Nat.le_trans (Dg.joinedL_len_le _ 10000 h) (by show 5 * (10000 + 21) ≤ _; decide)
end Go.Proofs.YtobhpeockinnjaaGreatDoor
/- Readers in memory. No conditions but those that each theorem states. -/
namespace Go.Proofs.YtobhpeockinnjaaGreatDoor
open Go Go.RowKit Go.Sort Go.Maps
/-- A day, a count, a root. -/
abbrev Dy := Int × Int × ByteArray
noncomputable def rLe : Value → Option (DataW Unit × List MemPlace)
  | .agg ⟨[.int .i64 a, .string s]⟩ => some (.agg [.lit (.int .i64 a), .lit (.string s.data.toList)], [])
  | _ => none
noncomputable def daysD : List Dy → DataW Unit
  | [] => .map []
  | (d, c, r) :: l => (daysD l).put (.int .i64 d) (.agg [.lit (.int .i64 c), .lit (.string r.data.toList)])
def foundD : List Dy → Int → Option (Int × ByteArray)
  | [], _ => none
  | (d, c, r) :: l, k => if d = k then some (c, r) else foundD l k
theorem daysD_isMap : ∀ l, IsMap (daysD l)
  | [] => isMap_empty
  | (_, _, _) :: l => (daysD_isMap l).put _ _
theorem daysD_has (k : Int) : ∀ l, Maps.has (daysD l) (.int .i64 k) = (foundD l k).isSome
  | [] => rfl
  | (d, c, r) :: l => by
    by_cases h : d = k
    · subst h
      rw [daysD, Maps.has_put_same (daysD_isMap l) (by trivial), foundD, if_pos rfl]; rfl
    · rw [daysD, Maps.has_put_other (fun e => h (by injection e with _ e; exact e.symm)), daysD_has k l, foundD, if_neg h]
theorem daysD_at (k : Int) (zd : DataW Unit) : ∀ l, (daysD l).atKey (.int .i64 k) zd = match foundD l k with | some (c, r) => .agg [.lit (.int .i64 c), .lit (.string r.data.toList)] | none => zd
  | [] => rfl
  | (d, c, r) :: l => by
    by_cases h : d = k
    · subst h
      rw [daysD, atKey_put_same (daysD_isMap l) (by trivial), foundD, if_pos rfl]
    · rw [daysD, atKey_put_other (fun e => h (by injection e with _ e; exact e.symm)), daysD_at k zd l, foundD, if_neg h]
theorem rLe_inv {v : Value} {c : Int} {r : ByteArray} {ps : List MemPlace} (h : rLe v = some (.agg [.lit (.int .i64 c), .lit (.string r.data.toList)], ps)) : v = .agg #[.int .i64 c, .string r] := by
  unfold rLe at h
  split at h
  · rename_i a s
    injection h with h
    injection h with h _
    injection h with h
    injection h with h1 h2
    injection h1 with h1
    injection h1 with _ h1
    injection h2 with h2 _
    injection h2 with h2
    injection h2 with h2
    subst h1
    obtain ⟨⟨d⟩⟩ := s
    obtain ⟨⟨d'⟩⟩ := r
    cases h2
    rfl
  · cases h
theorem lawIntP : Keyed Tryz.prog 3 := int_keyed Tryz.underlying3
theorem key_intP (m : Int) (m0 : -9223372036854775808 ≤ m) (m1 : m ≤ 9223372036854775807) : keyOf Tryz.prog 3 (.int .i64 m) = some (.int .i64 m) :=
  keyOf_int_mk Tryz.underlying3 (WalkArith.wf_i64 ⟨m0, m1⟩)
set_option maxRecDepth 100000 in
theorem days_look {W : World} {mb N : Nat} {l : List Dy} (h : W.ownsMap Tryz.prog 3 rLe mb N (daysD l)) (d : Int) (m0 : -9223372036854775808 ≤ d) (m1 : d ≤ 9223372036854775807) :
    (∀ c r, foundD l d = some (c, r) → (Instr.lookup 86 (.map (some mb)) (.int .i64 d) true).run Tryz.prog W = .ok (.tuple #[.agg #[.int .i64 c, .string r], .bool true]) W) ∧
    (foundD l d = none → (Instr.lookup 86 (.map (some mb)) (.int .i64 d) true).run Tryz.prog W = .ok (.tuple #[.agg #[.int .i64 0, .string ⟨#[]⟩], .bool false]) W) := by
  obtain ⟨v, ps, hrun, hv⟩ := h.look_ok lawIntP Tryz.underlying86 (z := .agg #[.int .i64 0, .string ⟨#[]⟩]) (by kernel_rfl) (zd := .agg [.lit (.int .i64 0), .lit (.string (⟨#[]⟩ : ByteArray).data.toList)]) (zp := []) rfl (key_intP d m0 m1)
  rw [daysD_has] at hrun
  rw [daysD_at] at hv
  constructor
  · intro c r hf
    rw [hf] at hrun hv
    rw [rLe_inv hv] at hrun
    exact hrun
  · intro hf
    rw [hf] at hrun hv
    rw [rLe_inv hv] at hrun
    exact hrun
theorem rLe_mk (c : Int) (r : ByteArray) : rLe (.agg #[.int .i64 c, .string r]) = some (.agg [.lit (.int .i64 c), .lit (.string r.data.toList)], []) := rfl
/-- A reader. -/
structure Rd (br mb : Nat) (key : ByteArray) (l : List Dy) (X : World) : Prop where
  row : X.heap[br]? = some (.cells #[.string key, .map (some mb)] 88 (0, 0))
  map : X.ownsMap Tryz.prog 3 rLe mb l.length (daysD l)
  ne : br ≠ mb
theorem Rd.below {br mb : Nat} {key : ByteArray} {l : List Dy} {X X' : World} (h : Rd br mb key l X) (hb : Below X.heap.size X X') : Rd br mb key l X' := ⟨iNext h.row hb, ownsMap_off (S := []) h.map (Off.of_below hb) (by simp), h.ne⟩
theorem Rd.far {br mb : Nat} {key : ByteArray} {l : List Dy} {S : List Nat} {X X' : World} (h : Rd br mb key l X) (ho : Off S X X') (h1 : br ∉ S) (h2 : mb ∉ S) : Rd br mb key l X' := ⟨ho.row h.row h1, ownsMap_off h.map ho h2, h.ne⟩
theorem learnt_run (w : World) (a b : Int) (s t : ByteArray) : (binOp .neq 94 (.agg #[.int .i64 a, .string s]) (.agg #[.int .i64 b, .string t])).run Tryz.prog w = .ok (.bool (!((a == b) && (s.toList == t.toList)))) w := by
  have hS : Tryz.prog.underlying 94 = some (.struct (Tryz.prog.fieldsOf 94)) := by kernel_rfl
  have hp : Tryz.prog.stoodInHeld 94 = false := by kernel_rfl
  rw [run_neq_struct, show (10000 : Nat) = 9999 + 1 from rfl, run_equalIn_agg w 9999 94 _ _ hS hp]
  simp only [Program.fieldsOf, Tryz.underlying94]
  have u3 := Tryz.underlying3
  have u5 := Tryz.underlying9
  have a3 := Tryz.isAgg3
  have a5 := Tryz.isAgg9
  have z3 := Tryz.sizeOf3
  have z5 := Tryz.sizeOf9
  go_simp
  by_cases h1 : a = b <;> by_cases h2 : s.toList = t.toList <;> simp [h1, h2]
def learnBad (d c : Int) (root : ByteArray) : Prop := d < 0 ∨ 1000000 < d ∨ c < 0 ∨ 2000 < c ∨ Dg.isB root = false
instance (d c : Int) (root : ByteArray) : Decidable (learnBad d c root) := by unfold learnBad; infer_instance
def learnE (l : List Dy) (V : Bool) (d c : Int) (root : ByteArray) : Int × List Dy :=
  if learnBad d c root then (1, l)
  else if V = false then (19, l)
  else match foundD l d with
    | some (c0, r0) => if c0 = c ∧ r0 = root then (0, (d, c, root) :: l) else (23, l)
    | none => (0, (d, c, root) :: l)
end Go.Proofs.YtobhpeockinnjaaGreatDoor
/- Seals in plain Lean: digits, chains, keys, what Sign and Verify compute. No program in sight. -/
namespace Go.Proofs.YtobhpeockinnjaaGreatDoor.Dg
/-! The digits of a message. -/
def dgt (m : ByteArray) (j : Nat) : Nat := state (L m) / 16 ^ (15 - j) % 16
theorem dgt_lt (m : ByteArray) (j : Nat) : dgt m j < 16 := Nat.mod_lt _ (by decide)
def restTo (m : ByteArray) : Nat → Nat
  | 0 => 0
  | j + 1 => restTo m j + (15 - dgt m j)
theorem restTo_le (m : ByteArray) (j : Nat) : restTo m j ≤ 15 * j := by
  induction j with
  | zero => exact Nat.le_refl _
  | succ j ih => rw [restTo]; omega
def dig (m : ByteArray) (k : Nat) : Nat := if k < 16 then dgt m k else if k = 16 then restTo m 16 / 16 else restTo m 16 % 16
theorem dig_le (m : ByteArray) (k : Nat) : dig m k ≤ 15 := by
  unfold dig
  have h1 := dgt_lt m k
  have h2 := restTo_le m 16
  split
  · omega
  · split <;> omega
theorem dig_lo (m : ByteArray) (k : Nat) (h : k < 16) : dig m k = dgt m k := if_pos h
theorem dig_16 (m : ByteArray) : dig m 16 = restTo m 16 / 16 := rfl
theorem dig_17 (m : ByteArray) : dig m 17 = restTo m 16 % 16 := rfl
theorem restTo_mono (m m' : ByteArray) (j : Nat) : (∀ i, i < j → dgt m i ≤ dgt m' i) → restTo m' j ≤ restTo m j ∧ (restTo m' j = restTo m j → ∀ i, i < j → dgt m i = dgt m' i) := by
  induction j with
  | zero => intro _; exact ⟨Nat.le_refl _, fun _ i hi => by omega⟩
  | succ j ih =>
    intro h
    obtain ⟨h1, h2⟩ := ih fun i hi => h i (by omega)
    have h3 := h j (by omega)
    have h4 := dgt_lt m j
    have h5 := dgt_lt m' j
    rw [restTo, restTo]
    refine ⟨by omega, fun he i hi => ?_⟩
    by_cases hij : i < j
    · exact h2 (by omega) i hij
    · obtain rfl : i = j := by omega
      omega
theorem sum_of_dgt (m m' : ByteArray) (h : ∀ i, i < 16 → dgt m i = dgt m' i) : sumB m = sumB m' := by
  have key : ∀ n, n ≤ 16 → hexTo (state (L m)) n = hexTo (state (L m')) n := by
    intro n
    induction n with
    | zero => intro _; rfl
    | succ n ih =>
      intro hn
      rw [hexTo, hexTo, ih (by omega)]
      have := h n (by omega)
      unfold dgt at this
      rw [this]
  unfold sumB sum hex
  rw [key 16 (Nat.le_refl _)]
/-- Of two messages with different digests, the second has somewhere a smaller digit than the first. -/
theorem dig_smaller (m m' : ByteArray) (h : sumB m ≠ sumB m') : ∃ k, k < 18 ∧ dig m' k < dig m k := by
  apply Classical.byContradiction
  intro hno
  have hle : ∀ k, k < 18 → dig m k ≤ dig m' k := fun k hk => by
    apply Classical.byContradiction
    intro h2
    exact hno ⟨k, hk, by omega⟩
  obtain ⟨h1, h2⟩ := restTo_mono m m' 16 fun i hi => by
    have := hle i (by omega)
    rwa [dig_lo m i hi, dig_lo m' i hi] at this
  have h3 := hle 16 (by omega)
  have h4 := hle 17 (by omega)
  rw [dig_16, dig_16] at h3
  rw [dig_17, dig_17] at h4
  exact h (sum_of_dgt m m' fun i hi => h2 (by omega) i hi)
/-! Chains, keys, seals. -/
def decS (n : Nat) : ByteArray := B (dec n)
def startT (secret : ByteArray) (i k : Nat) : ByteArray := jB [secret, decS i, decS k]
def startB (secret : ByteArray) (i k : Nat) : ByteArray := listB [secret, decS i, decS k]
theorem startB_eq (secret : ByteArray) (i k : Nat) : startB secret i k = sumB (startT secret i k) := rfl
/-- Link j of chain k of the one-time key i of a secret. -/
def ch (secret : ByteArray) (i k j : Nat) : ByteArray := chainB (startB secret i k) j
theorem ch_zero (secret : ByteArray) (i k : Nat) : ch secret i k 0 = startB secret i k := chainB_zero _
theorem ch_succ (secret : ByteArray) (i k j : Nat) : ch secret i k (j + 1) = sumB (ch secret i k j) := chainB_succ _ _
theorem ch_add (secret : ByteArray) (i k a b : Nat) : chainB (ch secret i k a) b = ch secret i k (a + b) := chainB_add _ _ _
theorem isB_ch (secret : ByteArray) (i k j : Nat) : isB (ch secret i k j) = true := by
  cases j with
  | zero => rw [ch_zero]; exact isB_listB _
  | succ j => rw [ch_succ]; exact isB_sumB _
def endsOf (secret : ByteArray) (i : Nat) : List ByteArray := (List.range 18).map fun k => ch secret i k 15
def keyB (secret : ByteArray) (i : Nat) : ByteArray := listB (endsOf secret i)
def keysB (secret : ByteArray) (h : Nat) : List ByteArray := (List.range (2 ^ h)).map (keyB secret)
def publicB (secret : ByteArray) (h : Nat) : ByteArray := root (keysB secret h)
def sigB (secret : ByteArray) (i : Nat) (m : ByteArray) : List ByteArray := (List.range 18).map fun k => ch secret i k (dig m k)
def sealPath (secret : ByteArray) (h i : Nat) : List ByteArray := path (keysB secret h) i
/-- The ends of the chains that a seal's digests come to. -/
def endsB (m : ByteArray) (sig : List ByteArray) : List ByteArray := (List.range 18).map fun k => chainB (sig.getD k ⟨#[]⟩) (15 - dig m k)
theorem endsOf_len (secret : ByteArray) (i : Nat) : (endsOf secret i).length = 18 := by rw [endsOf, List.length_map, List.length_range]
theorem keysB_len (secret : ByteArray) (h : Nat) : (keysB secret h).length = 2 ^ h := by rw [keysB, List.length_map, List.length_range]
theorem sigB_len (secret : ByteArray) (i : Nat) (m : ByteArray) : (sigB secret i m).length = 18 := by rw [sigB, List.length_map, List.length_range]
theorem endsB_len (m : ByteArray) (sig : List ByteArray) : (endsB m sig).length = 18 := by rw [endsB, List.length_map, List.length_range]
theorem keysB_get (secret : ByteArray) (h i : Nat) (hi : i < (keysB secret h).length) : (keysB secret h)[i] = keyB secret i := by
  have h1 : (keysB secret h)[i]? = some (keyB secret i) := by
    rw [keysB_len] at hi
    unfold keysB
    rw [List.getElem?_map, List.getElem?_range hi]; rfl
  exact Option.some.inj ((List.getElem?_eq_getElem hi).symm.trans h1)
theorem sigB_getD (secret : ByteArray) (i : Nat) (m : ByteArray) (k : Nat) (hk : k < 18) : (sigB secret i m).getD k ⟨#[]⟩ = ch secret i k (dig m k) := by
  rw [sigB, List.getD_eq_getElem?_getD, List.getElem?_map, List.getElem?_range hk]; rfl
/-- With the whole of the chains, a seal comes to the ends of its key. -/
theorem endsB_sig (secret : ByteArray) (i : Nat) (m : ByteArray) : endsB m (sigB secret i m) = endsOf secret i := by
  unfold endsB endsOf
  apply List.map_congr_left
  intro k hk
  have hk := List.mem_range.1 hk
  have h := dig_le m k
  rw [sigB_getD _ _ _ _ hk, ch_add]
  congr 1
  omega
theorem ch_size (secret : ByteArray) (i k j : Nat) : (ch secret i k j).size = 16 := isB_len (isB_ch _ _ _ _)
theorem isB_keyB (secret : ByteArray) (i : Nat) : isB (keyB secret i) = true := isB_listB _
theorem keyB_size (secret : ByteArray) (i : Nat) : (keyB secret i).size = 16 := listB_size _
theorem keysB_size (secret : ByteArray) (h : Nat) : ∀ s ∈ keysB secret h, s.size = 16 := fun s hs => by
  unfold keysB at hs
  obtain ⟨i, _, rfl⟩ := List.mem_map.1 hs
  exact keyB_size _ _
theorem endsOf_size (secret : ByteArray) (i : Nat) : ∀ s ∈ endsOf secret i, s.size = 16 := fun s hs => by
  unfold endsOf at hs
  obtain ⟨k, _, rfl⟩ := List.mem_map.1 hs
  exact ch_size _ _ _ _
theorem sigB_isB (secret : ByteArray) (i : Nat) (m : ByteArray) : ∀ s ∈ sigB secret i m, isB s = true := fun s hs => by
  unfold sigB at hs
  obtain ⟨k, _, rfl⟩ := List.mem_map.1 hs
  exact isB_ch _ _ _ _
/-! What is digested. -/
def chained (s : ByteArray) (n : Nat) : List ByteArray := (List.range (n + 1)).map (chainB s)
theorem mem_chained (s : ByteArray) (n j : Nat) (h : j ≤ n) : chainB s j ∈ chained s n := List.mem_map.2 ⟨j, List.mem_range.2 (by omega), rfl⟩
/-- Two chains of the same length that meet at their ends begin with the same text, or show two texts with one digest. -/
theorem chain_meet (T : List ByteArray) (n : Nat) : ∀ (a b : ByteArray), (∀ j, j ≤ n → chainB a j ∈ T) → (∀ j, j ≤ n → chainB b j ∈ T) → chainB a n = chainB b n → a = b ∨ Shown T := by
  induction n with
  | zero => intro a b _ _ h; rw [chainB_zero, chainB_zero] at h; exact Or.inl h
  | succ n ih =>
    intro a b ha hb h
    by_cases he : chainB a n = chainB b n
    · exact ih a b (fun j hj => ha j (by omega)) (fun j hj => hb j (by omega)) he
    · exact Or.inr ⟨_, ha n (by omega), _, hb n (by omega), he, by rw [← chainB_succ, ← chainB_succ]; exact h⟩
/-- A start is no digest: it holds a colon. -/
theorem no58 (l : List UInt8) (h : is l = true) : (58 : UInt8) ∉ l := by
  unfold is at h
  rw [Bool.and_eq_true] at h
  intro hm
  have := List.all_eq_true.1 h.2 58 hm
  exact absurd this (by decide)
theorem start_not_digest (secret : ByteArray) (i k : Nat) : isB (startT secret i k) = false := by
  cases h : isB (startT secret i k) with
  | false => rfl
  | true =>
    exfalso
    refine no58 _ h ?_
    unfold startT jB joinedL
    rw [L_B]
    simp [joined]
theorem start_ne (secret : ByteArray) (i k : Nat) (s : ByteArray) (h : isB s = true) : startT secret i k ≠ s := fun e => by
  rw [← e, start_not_digest] at h; exact Bool.noConfusion h
/-- A chain that comes back to itself shows two texts with one digest. -/
theorem chain_loop (T : List ByteArray) (secret : ByteArray) (i k : Nat) (d : Nat) (hd : 0 < d) (n : Nat) : (startT secret i k ∈ T) → (∀ j, j ≤ n + d → ch secret i k j ∈ T) → ch secret i k (n + d) = ch secret i k n → Shown T := by
  intro hs
  induction n with
  | zero =>
    intro hT h
    rw [Nat.zero_add, ch_zero] at h
    obtain ⟨e, rfl⟩ : ∃ e, d = e + 1 := ⟨d - 1, by omega⟩
    rw [ch_succ, startB_eq] at h
    exact ⟨_, hs, _, hT e (by omega), start_ne _ _ _ _ (isB_ch _ _ _ _), h.symm⟩
  | succ n ih =>
    intro hT h
    by_cases he : ch secret i k (n + d) = ch secret i k n
    · exact ih (fun j hj => hT j (by omega)) he
    · rw [show n + 1 + d = (n + d) + 1 by omega, ch_succ, ch_succ] at h
      exact ⟨_, hT (n + d) (by omega), _, hT n (by omega), he, h⟩
/-- Chains with different starts that meet show two texts with one digest. -/
theorem chain_starts (T : List ByteArray) (s s' : ByteArray) (i i' k k' n : Nat) (h1 : startT s i k ∈ T) (h2 : startT s' i' k' ∈ T) (ha : ∀ j, j ≤ n → ch s i k j ∈ T) (hb : ∀ j, j ≤ n → ch s' i' k' j ∈ T) (h : ch s i k n = ch s' i' k' n) (hne : startT s i k ≠ startT s' i' k') : Shown T := by
  rcases chain_meet T n (startB s i k) (startB s' i' k') ha hb h with h3 | h3
  · exact ⟨_, h1, _, h2, hne, h3⟩
  · exact h3
theorem decS_inj {a b : Nat} (ha : a < 10 ^ 20) (hb : b < 10 ^ 20) (h : decS a = decS b) : a = b := dec_inj ha hb (B_inj h)
theorem decS_size (n : Nat) : (decS n).size ≤ 20 := by rw [decS, size_B]; exact dec_len n
theorem start_inj {s s' : ByteArray} {i i' k k' : Nat} (hs : s.size ≤ Z) (hs' : s'.size ≤ Z) (hi : i < 10 ^ 20) (hi' : i' < 10 ^ 20) (h : startT s i k = startT s' i' k') : s = s' ∧ i = i' := by
  have hd : ∀ n, (decS n).size ≤ 1099511627776 := fun n => Nat.le_trans (decS_size n) (by decide)
  have := (joinedL_eq [s, decS i, decS k] [s', decS i', decS k'] (mem3' (P := fun s => s.size ≤ 1099511627776) hs (hd _) (hd _)) (mem3' (P := fun s => s.size ≤ 1099511627776) hs' (hd _) (hd _))).1 h
  injection this with h1 h2
  injection h2 with h2 _
  exact ⟨h1, decS_inj hi hi' h2⟩
end Go.Proofs.YtobhpeockinnjaaGreatDoor.Dg
/- The laws of seals in plain Lean: a seal that is accepted is the one of its key, or two texts with one digest are shown. No program in sight. -/
namespace Go.Proofs.YtobhpeockinnjaaGreatDoor.Dg
/-! Trees of 2^n elements. -/
theorem half_two_pow (n : Nat) : half (2 ^ (n + 1)) = 2 ^ n := by
  obtain ⟨e, he⟩ := half_pow (2 ^ (n + 1))
  have h1 := half_lt (2 ^ (n + 1)) (by rw [Nat.pow_succ]; have := Nat.one_le_two_pow (n := n); omega)
  have h2 := half_two (2 ^ (n + 1))
  rw [he] at h1 h2 ⊢
  have e1 : e ≤ n := by
    rcases Nat.lt_or_ge n e with h | h
    · have : 2 ^ (n + 1) ≤ 2 ^ e := Nat.pow_le_pow_right (by omega) h
      omega
    · exact h
  have e2 : n ≤ e := by
    rcases Nat.lt_or_ge e n with h | h
    · have : 2 ^ (e + 1) ≤ 2 ^ n := Nat.pow_le_pow_right (by omega) h
      have h3 : 2 ^ (e + 1) = 2 * 2 ^ e := by rw [Nat.pow_succ]; omega
      have h4 : 2 ^ (n + 1) = 2 * 2 ^ n := by rw [Nat.pow_succ]; omega
      have := Nat.one_le_two_pow (n := n)
      omega
    · exact h
  rw [Nat.le_antisymm e1 e2]
theorem pow_ge2 (n : Nat) : 2 ≤ 2 ^ (n + 1) := by rw [Nat.pow_succ]; have := Nat.one_le_two_pow (n := n); omega
theorem leaf_node {T : List ByteArray} (s a b : ByteArray) (hs : s.size ≤ Z) (ha : a.size ≤ Z) (hb : b.size ≤ Z) (h : leafB s = nodeB a b) (h1 : jB [sLeaf, s] ∈ T) (h2 : jB [sNode, a, b] ∈ T) : Shown T := by
  refine ⟨_, h1, _, h2, fun he => ?_, h⟩
  have := (joinedL_eq [sLeaf, s] [sNode, a, b] (mem2' (by decide) hs) (mem3' (by decide) ha hb)).1 he
  injection this with h3 _
  exact absurd h3 (by decide)
theorem pt_leaf (n i : Nat) (s : ByteArray) : ∀ r, jB [sLeaf, s] ∈ pathTexts n i s r := by
  induction n using Nat.strongRecOn generalizing i with
  | _ n ih =>
  intro r
  by_cases h1 : n ≤ 1
  · rw [pathTexts_one _ _ _ _ h1]; exact List.mem_singleton.2 rfl
  have g1 := half_pos n
  have g2 := half_lt n (by omega)
  by_cases hh : i < half n
  · rw [pathTexts_fst n i s r (by omega) hh]; exact List.mem_append_left _ (ih _ g2 _ _)
  · rw [pathTexts_snd n i s r (by omega) hh]; exact List.mem_append_left _ (ih _ (by omega) _ _)
theorem texts_leaf1 (x : ByteArray) : jB [sLeaf, x] ∈ texts [x] := List.mem_singleton.2 rfl
theorem tree_sound (p : Nat) : ∀ (h : Nat) (keys : List ByteArray) (idx : Nat) (k' : ByteArray) (r : List ByteArray), keys.length = 2 ^ h → r.length = p → idx < 2 ^ p → k'.size ≤ Z → (∀ s ∈ keys, s.size ≤ Z) → (∀ s ∈ r, s.size ≤ Z) → up (2 ^ p) idx (leafB k') r = root keys →
    (p = h ∧ keys[idx]? = some k' ∧ r.reverse = path keys idx) ∨ Shown (texts keys ++ pathTexts (2 ^ p) idx k' r) := by
  have z : ∀ l, (root l).size ≤ Z := fun l => by rw [root_size16]; decide
  induction p with
  | zero =>
    intro h keys idx k' r hk hr hi hkz hz hrz hup
    rw [up_one _ _ _ _ (by simp)] at hup
    cases h with
    | zero =>
      obtain ⟨x, rfl⟩ : ∃ s, keys = [s] := List.length_eq_one_iff.1 (by simpa using hk)
      rw [root_one] at hup
      obtain rfl : idx = 0 := by simpa using hi
      obtain rfl : r = [] := List.length_eq_zero_iff.1 hr
      rcases leaf_split (T := texts [x] ++ pathTexts (2 ^ 0) 0 k' []) k' x hkz (hz x (by simp)) hup (List.mem_append_right _ (pt_leaf _ _ _ _)) (List.mem_append_left _ (texts_leaf1 x)) with h2 | h2
      · exact Or.inr h2
      · subst h2
        exact Or.inl ⟨rfl, rfl, by rw [path_short _ _ (by simp)]; rfl⟩
    | succ h =>
      have := pow_ge2 h
      rw [root_more keys (by omega)] at hup
      exact Or.inr (leaf_node k' _ _ hkz (z _) (z _) hup (List.mem_append_right _ (pt_leaf _ _ _ _)) (List.mem_append_left _ (texts_node keys (by omega))))
  | succ p ih =>
    intro h keys idx k' r hk hr hi hkz hz hrz hup
    have h2p := pow_ge2 p
    have hhp := half_two_pow p
    obtain ⟨s, r', rfl⟩ : ∃ s r', r = s :: r' := by
      cases r with
      | nil => simp at hr
      | cons s r' => exact ⟨s, r', rfl⟩
    have hr' : r'.length = p := by simpa using hr
    have hsz := hrz s (List.mem_cons_self ..)
    have hrz' : ∀ x ∈ r', x.size ≤ Z := fun x hx => hrz x (List.mem_cons_of_mem _ hx)
    have lz : (leafB k').size ≤ Z := leaf_leZ k'
    cases h with
    | zero =>
      obtain ⟨x, rfl⟩ : ∃ s, keys = [s] := List.length_eq_one_iff.1 (by simpa using hk)
      rw [root_one] at hup
      have hx := hz x (by simp)
      by_cases hh : idx < 2 ^ p
      · rw [up_fst _ _ _ _ h2p (by rw [hhp]; exact hh), hhp] at hup
        refine Or.inr (leaf_node x _ _ hx (up_leZ _ _ _ _ lz) hsz hup.symm (List.mem_append_left _ (texts_leaf1 x)) (List.mem_append_right _ ?_))
        rw [pathTexts_fst _ _ _ _ h2p (by rw [hhp]; exact hh), hhp]
        exact List.mem_append_right _ (List.mem_singleton.2 rfl)
      · rw [up_snd _ _ _ _ h2p (by rw [hhp]; exact hh), hhp] at hup
        refine Or.inr (leaf_node x _ _ hx hsz (up_leZ _ _ _ _ lz) hup.symm (List.mem_append_left _ (texts_leaf1 x)) (List.mem_append_right _ ?_))
        rw [pathTexts_snd _ _ _ _ h2p (by rw [hhp]; exact hh), hhp]
        exact List.mem_append_right _ (List.mem_singleton.2 rfl)
    | succ h =>
      have h2h := pow_ge2 h
      have hhh := half_two_pow h
      have e2p : 2 ^ (p + 1) = 2 ^ p + 2 ^ p := by rw [Nat.pow_succ]; omega
      have e2h : 2 ^ (h + 1) = 2 ^ h + 2 ^ h := by rw [Nat.pow_succ]; omega
      have hkl : half keys.length = 2 ^ h := by rw [hk, hhh]
      have na := texts_node keys (by omega)
      have fa := texts_fst keys (by omega)
      have sa := texts_snd keys (by omega)
      rw [root_more keys (by omega)] at hup
      rw [hkl] at hup na fa sa
      by_cases hh : idx < 2 ^ p
      · rw [up_fst _ _ _ _ h2p (by rw [hhp]; exact hh), hhp] at hup
        rw [pathTexts_fst _ _ _ _ h2p (by rw [hhp]; exact hh), hhp]
        rcases node_split (T := texts keys ++ (pathTexts (2 ^ p) idx k' (s :: r').tail ++ [jB [sNode, up (2 ^ p) idx (leafB k') (s :: r').tail, (s :: r').headD ⟨#[]⟩]])) _ _ _ _ (up_leZ _ _ _ _ lz) hsz (z _) (z _) hup (List.mem_append_right _ (List.mem_append_right _ (List.mem_singleton.2 rfl))) (List.mem_append_left _ na) with h3 | ⟨h3, h4⟩
        · exact Or.inr h3
        · rcases ih h (keys.take (2 ^ h)) idx k' r' (by rw [List.length_take]; omega) hr' hh hkz (fun x hx => hz x (List.mem_of_mem_take hx)) hrz' h3 with ⟨h5, h6, h7⟩ | h5
          · subst h5
            refine Or.inl ⟨rfl, ?_, ?_⟩
            · rw [List.getElem?_take, if_pos hh] at h6
              exact h6
            · rw [path_fst keys idx (by omega) (by rw [hkl]; exact hh), hkl, List.reverse_cons, h7]
              have : s = root (keys.drop (2 ^ p)) := h4
              rw [this]
          · exact Or.inr (h5.mono fun x hx => by
              rcases List.mem_append.1 hx with hx | hx
              · exact List.mem_append_left _ (fa x hx)
              · exact List.mem_append_right _ (List.mem_append_left _ hx))
      · rw [up_snd _ _ _ _ h2p (by rw [hhp]; exact hh), hhp] at hup
        rw [pathTexts_snd _ _ _ _ h2p (by rw [hhp]; exact hh), hhp]
        have e3 : 2 ^ (p + 1) - 2 ^ p = 2 ^ p := by omega
        rw [e3] at hup ⊢
        rcases node_split (T := texts keys ++ (pathTexts (2 ^ p) (idx - 2 ^ p) k' (s :: r').tail ++ [jB [sNode, (s :: r').headD ⟨#[]⟩, up (2 ^ p) (idx - 2 ^ p) (leafB k') (s :: r').tail]])) _ _ _ _ hsz (up_leZ _ _ _ _ lz) (z _) (z _) hup (List.mem_append_right _ (List.mem_append_right _ (List.mem_singleton.2 rfl))) (List.mem_append_left _ na) with h3 | ⟨h3, h4⟩
        · exact Or.inr h3
        · rcases ih h (keys.drop (2 ^ h)) (idx - 2 ^ p) k' r' (by rw [List.length_drop]; omega) hr' (by omega) hkz (fun x hx => hz x (List.mem_of_mem_drop hx)) hrz' h4 with ⟨h5, h6, h7⟩ | h5
          · subst h5
            refine Or.inl ⟨rfl, ?_, ?_⟩
            · rw [List.getElem?_drop] at h6
              rw [← h6]
              congr 1
              omega
            · rw [path_snd keys idx (by omega) (by rw [hkl]; exact hh), hkl, List.reverse_cons, h7]
              have : s = root (keys.take (2 ^ p)) := h3
              rw [this]
          · exact Or.inr (h5.mono fun x hx => by
              rcases List.mem_append.1 hx with hx | hx
              · exact List.mem_append_left _ (sa x hx)
              · exact List.mem_append_right _ (List.mem_append_left _ hx))
/-! The texts that are digested for a public key. -/
def madeKey (secret : ByteArray) (n i : Nat) : List ByteArray := ((List.range 18).flatMap fun k => startT secret i k :: chained (startB secret i k) n) ++ [jB (endsOf secret i), jB [sLeaf, keyB secret i]]
def pairT : List ByteArray → List ByteArray
  | a :: b :: r => jB [sNode, a, b] :: pairT r
  | _ => []
def pairD : List ByteArray → List ByteArray
  | a :: b :: r => nodeB a b :: pairD r
  | _ => []
def lvF : Nat → List ByteArray → List ByteArray
  | 0, _ => []
  | f + 1, l => if l.length ≤ 1 then [] else pairT l ++ lvF f (pairD l)
def leaves (secret : ByteArray) (h : Nat) : List ByteArray := (keysB secret h).map leafB
def made (secret : ByteArray) (h n : Nat) : List ByteArray := ((List.range (2 ^ h)).flatMap (madeKey secret n)) ++ lvF (2 ^ h) (leaves secret h)
theorem made_key {secret : ByteArray} {h n i : Nat} (hi : i < 2 ^ h) {t : ByteArray} (ht : t ∈ madeKey secret n i) : t ∈ made secret h n :=
  List.mem_append_left _ (List.mem_flatMap.2 ⟨i, List.mem_range.2 hi, ht⟩)
theorem made_start {secret : ByteArray} {h n i k : Nat} (hi : i < 2 ^ h) (hk : k < 18) : startT secret i k ∈ made secret h n :=
  made_key hi (List.mem_append_left _ (List.mem_flatMap.2 ⟨k, List.mem_range.2 hk, List.mem_cons_self ..⟩))
theorem made_ch {secret : ByteArray} {h n i k j : Nat} (hi : i < 2 ^ h) (hk : k < 18) (hj : j ≤ n) : ch secret i k j ∈ made secret h n :=
  made_key hi (List.mem_append_left _ (List.mem_flatMap.2 ⟨k, List.mem_range.2 hk, List.mem_cons_of_mem _ (mem_chained _ _ _ hj)⟩))
theorem made_ends {secret : ByteArray} {h n i : Nat} (hi : i < 2 ^ h) : jB (endsOf secret i) ∈ made secret h n :=
  made_key hi (List.mem_append_right _ (List.mem_cons_self ..))
theorem made_leaf {secret : ByteArray} {h n i : Nat} (hi : i < 2 ^ h) : jB [sLeaf, keyB secret i] ∈ made secret h n :=
  made_key hi (List.mem_append_right _ (List.mem_cons_of_mem _ (List.mem_singleton.2 rfl)))
theorem half2 : half 2 = 1 := by decide
theorem half4 : half 4 = 2 := by decide
theorem root_2 (a b : ByteArray) : root [a, b] = nodeB (leafB a) (leafB b) := rfl
theorem texts_2 (a b : ByteArray) : texts [a, b] = [jB [sLeaf, a], jB [sLeaf, b], jB [sNode, leafB a, leafB b]] := rfl
theorem texts_4 (a b c d : ByteArray) : texts [a, b, c, d] = [jB [sLeaf, a], jB [sLeaf, b], jB [sNode, leafB a, leafB b], jB [sLeaf, c], jB [sLeaf, d], jB [sNode, leafB c, leafB d], jB [sNode, nodeB (leafB a) (leafB b), nodeB (leafB c) (leafB d)]] := rfl
theorem keys_0 (s : ByteArray) : keysB s 0 = [keyB s 0] := rfl
theorem keys_1 (s : ByteArray) : keysB s 1 = [keyB s 0, keyB s 1] := rfl
theorem keys_2 (s : ByteArray) : keysB s 2 = [keyB s 0, keyB s 1, keyB s 2, keyB s 3] := rfl
theorem made_nodes (s : ByteArray) (h n : Nat) (t : ByteArray) (ht : t ∈ lvF (2 ^ h) (leaves s h)) : t ∈ made s h n := List.mem_append_right _ ht
theorem lv_2 (a b : ByteArray) : lvF 2 [a, b] = [jB [sNode, a, b]] := rfl
theorem lv_4 (a b c d : ByteArray) : lvF 4 [a, b, c, d] = [jB [sNode, a, b], jB [sNode, c, d], jB [sNode, nodeB a b, nodeB c d]] := rfl
theorem nodes_1 (s : ByteArray) : lvF (2 ^ 1) (leaves s 1) = [jB [sNode, leafB (keyB s 0), leafB (keyB s 1)]] := by
  rw [leaves, keys_1]
  exact lv_2 _ _
theorem nodes_2 (s : ByteArray) : lvF (2 ^ 2) (leaves s 2) = [jB [sNode, leafB (keyB s 0), leafB (keyB s 1)], jB [sNode, leafB (keyB s 2), leafB (keyB s 3)], jB [sNode, nodeB (leafB (keyB s 0)) (leafB (keyB s 1)), nodeB (leafB (keyB s 2)) (leafB (keyB s 3))]] := by
  rw [leaves, keys_2]
  exact lv_4 _ _ _ _
theorem made_texts (s : ByteArray) (h n : Nat) (hh : h ≤ 2) : ∀ t ∈ texts (keysB s h), t ∈ made s h n := by
  intro t ht
  obtain rfl | rfl | rfl : h = 0 ∨ h = 1 ∨ h = 2 := by omega
  · rw [keys_0, texts_one] at ht
    rw [List.mem_singleton.1 ht]
    exact made_leaf (by decide)
  · have m0 : jB [sLeaf, keyB s 0] ∈ made s 1 n := made_leaf (by decide)
    have m1 : jB [sLeaf, keyB s 1] ∈ made s 1 n := made_leaf (by decide)
    have hn := made_nodes s 1 n
    rw [nodes_1] at hn
    rw [keys_1, texts_2] at ht
    generalize keyB s 0 = a at *
    generalize keyB s 1 = b at *
    generalize made s 1 n = T at *
    generalize leafB a = la at *
    generalize leafB b = lb at *
    simp only [List.mem_cons, List.not_mem_nil, or_false] at ht
    rcases ht with h | h | h
    · rw [h]; exact m0
    · rw [h]; exact m1
    · rw [h]; exact hn _ (List.mem_singleton.2 rfl)
  · have m0 : jB [sLeaf, keyB s 0] ∈ made s 2 n := made_leaf (by decide)
    have m1 : jB [sLeaf, keyB s 1] ∈ made s 2 n := made_leaf (by decide)
    have m2 : jB [sLeaf, keyB s 2] ∈ made s 2 n := made_leaf (by decide)
    have m3 : jB [sLeaf, keyB s 3] ∈ made s 2 n := made_leaf (by decide)
    have hn := made_nodes s 2 n
    rw [nodes_2] at hn
    rw [keys_2, texts_4] at ht
    generalize keyB s 0 = a at *
    generalize keyB s 1 = b at *
    generalize keyB s 2 = c at *
    generalize keyB s 3 = d at *
    generalize made s 2 n = T at *
    generalize leafB a = la at *
    generalize leafB b = lb at *
    generalize leafB c = lc at *
    generalize leafB d = ld at *
    simp only [List.mem_cons, List.not_mem_nil, or_false] at ht
    rcases ht with h | h | h | h | h | h | h
    · rw [h]; exact m0
    · rw [h]; exact m1
    · rw [h]; exact hn _ (List.mem_cons_self ..)
    · rw [h]; exact m2
    · rw [h]; exact m3
    · rw [h]; exact hn _ (List.mem_cons_of_mem _ (List.mem_cons_self ..))
    · rw [h]; exact hn _ (List.mem_cons_of_mem _ (List.mem_cons_of_mem _ (List.mem_cons_self ..)))
/-! The texts that are digested when a seal is verified. -/
def fu : Nat → ByteArray → List ByteArray → ByteArray
  | _, d, [] => d
  | i, d, s :: r => fu (i / 2) (if i % 2 = 1 then nodeB s d else nodeB d s) r
def foldT : Nat → ByteArray → List ByteArray → List ByteArray
  | _, _, [] => []
  | i, d, s :: r => (if i % 2 = 1 then jB [sNode, s, d] else jB [sNode, d, s]) :: foldT (i / 2) (if i % 2 = 1 then nodeB s d else nodeB d s) r
def checked (m : ByteArray) (i : Nat) (sig path : List ByteArray) : List ByteArray :=
  (((List.range 18).flatMap fun k => chained (sig.getD k ⟨#[]⟩) (15 - dig m k)) ++ [jB (endsB m sig), jB [sLeaf, listB (endsB m sig)]]) ++ foldT i (leafB (listB (endsB m sig))) path
theorem fu_snoc (q : List ByteArray) (s : ByteArray) : ∀ (i : Nat) (d : ByteArray), fu i d (q ++ [s]) = if i / 2 ^ q.length % 2 = 1 then nodeB s (fu i d q) else nodeB (fu i d q) s := by
  induction q with
  | nil => intro i d; simp [fu]
  | cons a q ih =>
    intro i d
    rw [List.cons_append, fu, ih, fu, List.length_cons, Nat.pow_succ, Nat.mul_comm, ← Nat.div_div_eq_div_mul]
theorem foldT_snoc (q : List ByteArray) (s : ByteArray) : ∀ (i : Nat) (d : ByteArray), foldT i d (q ++ [s]) = foldT i d q ++ [if i / 2 ^ q.length % 2 = 1 then jB [sNode, s, fu i d q] else jB [sNode, fu i d q, s]] := by
  induction q with
  | nil => intro i d; simp [foldT, fu]
  | cons a q ih =>
    intro i d
    rw [List.cons_append, foldT, ih, foldT, fu, List.length_cons, Nat.pow_succ, Nat.mul_comm, ← Nat.div_div_eq_div_mul, List.cons_append]
theorem mod_pow_step (i n : Nat) : i % 2 ^ (n + 1) / 2 = i / 2 % 2 ^ n ∧ i % 2 ^ (n + 1) % 2 = i % 2 := by
  rw [Nat.pow_succ, Nat.mul_comm]
  constructor
  · rw [Nat.mod_mul_right_div_self]
  · rw [Nat.mod_mul_right_mod]
theorem fu_mod (q : List ByteArray) : ∀ (i : Nat) (d : ByteArray), fu (i % 2 ^ q.length) d q = fu i d q ∧ foldT (i % 2 ^ q.length) d q = foldT i d q := by
  induction q with
  | nil => intro i d; exact ⟨rfl, rfl⟩
  | cons a q ih =>
    intro i d
    obtain ⟨h1, h2⟩ := mod_pow_step i q.length
    rw [List.length_cons, fu, foldT, h1, h2, (ih _ _).1, (ih _ _).2, fu, foldT]
    exact ⟨rfl, rfl⟩
theorem up_fu (n : Nat) : ∀ (p : List ByteArray) (i : Nat) (k : ByteArray), p.length = n → i < 2 ^ n → up (2 ^ n) i (leafB k) p.reverse = fu i (leafB k) p ∧ (∀ t ∈ pathTexts (2 ^ n) i k p.reverse, t = jB [sLeaf, k] ∨ t ∈ foldT i (leafB k) p) := by
  induction n with
  | zero =>
    intro p i k hp hi
    obtain rfl : p = [] := List.length_eq_zero_iff.1 hp
    refine ⟨up_one _ _ _ _ (by simp), fun t ht => ?_⟩
    rw [pathTexts_one _ _ _ _ (by simp), List.mem_singleton] at ht
    exact Or.inl ht
  | succ n ih =>
    intro p i k hp hi
    obtain ⟨q, s, rfl⟩ : ∃ q s, p = q ++ [s] := by
      have hne : p ≠ [] := fun h => by rw [h] at hp; simp at hp
      exact ⟨p.dropLast, p.getLast hne, (List.dropLast_concat_getLast hne).symm⟩
    have hq : q.length = n := by simpa using hp
    have h2 := pow_ge2 n
    have hh := half_two_pow n
    have e2 : 2 ^ (n + 1) = 2 ^ n + 2 ^ n := by rw [Nat.pow_succ]; omega
    have hpos := Nat.one_le_two_pow (n := n)
    have hrev : (q ++ [s]).reverse = s :: q.reverse := by rw [List.reverse_append]; rfl
    rw [hrev, fu_snoc, foldT_snoc, hq]
    by_cases hi2 : i < 2 ^ n
    · have hd : i / 2 ^ n % 2 = 0 := by rw [Nat.div_eq_of_lt hi2]
      obtain ⟨h3, h4⟩ := ih q i k hq hi2
      rw [up_fst _ _ _ _ h2 (by rw [hh]; exact hi2), pathTexts_fst _ _ _ _ h2 (by rw [hh]; exact hi2), hh, if_neg (by omega), if_neg (by omega)]
      show nodeB (up (2 ^ n) i (leafB k) q.reverse) s = _ ∧ _
      rw [h3]
      refine ⟨rfl, fun t ht => ?_⟩
      rcases List.mem_append.1 ht with ht | ht
      · rcases h4 t ht with h5 | h5
        · exact Or.inl h5
        · exact Or.inr (List.mem_append_left _ h5)
      · right
        rw [List.mem_singleton] at ht
        refine List.mem_append_right _ (List.mem_singleton.2 ?_)
        rw [ht]
        show jB [sNode, up (2 ^ n) i (leafB k) q.reverse, s] = _
        rw [h3]
    · have hd : i / 2 ^ n = 1 := Nat.div_eq_of_lt_le (by omega) (by omega)
      have hm : i % 2 ^ q.length = i - 2 ^ n := by rw [hq, Nat.mod_eq_sub_mod (by omega), Nat.mod_eq_of_lt (by omega)]
      obtain ⟨h3, h4⟩ := ih q (i - 2 ^ n) k hq (by omega)
      rw [← hm, (fu_mod q i (leafB k)).1] at h3
      rw [← hm, (fu_mod q i (leafB k)).2] at h4
      have e3 : 2 ^ (n + 1) - 2 ^ n = 2 ^ n := by omega
      rw [up_snd _ _ _ _ h2 (by rw [hh]; exact hi2), pathTexts_snd _ _ _ _ h2 (by rw [hh]; exact hi2), hh, hd, if_pos rfl, if_pos rfl, e3, ← hm]
      show nodeB s (up (2 ^ n) (i % 2 ^ q.length) (leafB k) q.reverse) = _ ∧ _
      rw [h3]
      refine ⟨rfl, fun t ht => ?_⟩
      rcases List.mem_append.1 ht with ht | ht
      · rcases h4 t ht with h5 | h5
        · exact Or.inl h5
        · exact Or.inr (List.mem_append_left _ h5)
      · right
        rw [List.mem_singleton] at ht
        refine List.mem_append_right _ (List.mem_singleton.2 ?_)
        rw [ht]
        show jB [sNode, s, up (2 ^ n) (i % 2 ^ q.length) (leafB k) q.reverse] = _
        rw [h3]
theorem checked_chain {m : ByteArray} {i : Nat} {sig path : List ByteArray} {k j : Nat} (hk : k < 18) (hj : j ≤ 15 - dig m k) : chainB (sig.getD k ⟨#[]⟩) j ∈ checked m i sig path :=
  List.mem_append_left _ (List.mem_append_left _ (List.mem_flatMap.2 ⟨k, List.mem_range.2 hk, mem_chained _ _ _ hj⟩))
theorem checked_ends (m : ByteArray) (i : Nat) (sig path : List ByteArray) : jB (endsB m sig) ∈ checked m i sig path :=
  List.mem_append_left _ (List.mem_append_right _ (List.mem_cons_self ..))
theorem checked_path {m : ByteArray} {i : Nat} {sig path : List ByteArray} (hi : i < 2 ^ path.length) : ∀ t ∈ pathTexts (2 ^ path.length) i (listB (endsB m sig)) path.reverse, t ∈ checked m i sig path := fun t ht => by
  rcases (up_fu path.length path i (listB (endsB m sig)) rfl hi).2 t ht with h | h
  · rw [h]; exact List.mem_append_left _ (List.mem_append_right _ (List.mem_cons_of_mem _ (List.mem_singleton.2 rfl)))
  · exact List.mem_append_right _ h
/-! P3.3 to P3.5. -/
theorem ends_split {T : List ByteArray} (a b : List ByteArray) (ha : ∀ s ∈ a, s.size ≤ Z) (hb : ∀ s ∈ b, s.size ≤ Z) (h : listB a = listB b) (h1 : jB a ∈ T) (h2 : jB b ∈ T) : Shown T ∨ a = b := by
  by_cases he : jB a = jB b
  · exact Or.inr ((joinedL_eq a b ha hb).1 he)
  · exact Or.inl ⟨_, h1, _, h2, he, h⟩
theorem endsB_size (m : ByteArray) (sig : List ByteArray) (hs : ∀ s ∈ sig, s.size = 16) : ∀ s ∈ endsB m sig, s.size ≤ Z := fun s h => by
  unfold endsB at h
  obtain ⟨k, _, rfl⟩ := List.mem_map.1 h
  have hg : (sig.getD k ⟨#[]⟩).size ≤ 16 := by
    rw [List.getD_eq_getElem?_getD]
    cases hq : sig[k]? with
    | none => exact Nat.zero_le _
    | some x => exact Nat.le_of_eq (hs x (List.mem_of_getElem? hq))
  have := chainB_le (sig.getD k ⟨#[]⟩) (15 - dig m k)
  unfold Z
  omega
theorem endsOf_leZ (s : ByteArray) (i : Nat) : ∀ x ∈ endsOf s i, x.size ≤ Z := fun x h => by rw [endsOf_size s i x h]; decide
theorem ends_get {m : ByteArray} {sig : List ByteArray} {s : ByteArray} {i k : Nat} (hk : k < 18) (h : endsB m sig = endsOf s i) : chainB (sig.getD k ⟨#[]⟩) (15 - dig m k) = ch s i k 15 := by
  have h1 : (endsB m sig)[k]? = some (chainB (sig.getD k ⟨#[]⟩) (15 - dig m k)) := by rw [endsB, List.getElem?_map, List.getElem?_range hk]; rfl
  have h2 : (endsOf s i)[k]? = some (ch s i k 15) := by rw [endsOf, List.getElem?_map, List.getElem?_range hk]; rfl
  rw [h, h2] at h1
  exact (Option.some.inj h1).symm
theorem sig_ext {sig : List ByteArray} {s : ByteArray} {i : Nat} {m : ByteArray} (hl : sig.length = 18) (h : ∀ k, k < 18 → sig.getD k ⟨#[]⟩ = ch s i k (dig m k)) : sig = sigB s i m := by
  apply List.ext_getElem?
  intro k
  by_cases hk : k < 18
  · have h1 := h k hk
    rw [List.getD_eq_getElem?_getD, List.getElem?_eq_getElem (by omega)] at h1
    rw [List.getElem?_eq_getElem (by omega), sigB, List.getElem?_map, List.getElem?_range hk]
    exact congrArg some h1
  · rw [List.getElem?_eq_none (by omega), List.getElem?_eq_none (by rw [sigB_len]; omega)]
/-- The key that a seal comes to is the one at its index, with its path; or two texts with one digest are shown. -/
theorem seal_key (T : List ByteArray) (s : ByteArray) (h : Nat) (m : ByteArray) (i : Nat) (sig path : List ByteArray) (n : Nat) (hh : h ≤ 2) (hs : ∀ x ∈ sig, x.size = 16) (hp : ∀ x ∈ path, x.size = 16) (hi : i < 2 ^ path.length)
    (hup : up (2 ^ path.length) i (leafB (listB (endsB m sig))) path.reverse = publicB s h) (hT : ∀ t ∈ made s h n, t ∈ T) (hT' : ∀ t ∈ checked m i sig path, t ∈ T) (hno : ¬ Shown T) : path.length = h ∧ path = sealPath s h i ∧ endsB m sig = endsOf s i := by
  rcases tree_sound path.length h (keysB s h) i (listB (endsB m sig)) path.reverse (keysB_len s h) (by rw [List.length_reverse]) hi (by rw [listB_size]; decide) (fun x hx => by rw [keysB_size s h x hx]; decide) (fun x hx => by rw [hp x (List.mem_reverse.1 hx)]; decide) hup with ⟨h1, h2, h3⟩ | h1
  · rw [List.reverse_reverse] at h3
    have hi2 : i < (keysB s h).length := by rw [keysB_len, ← h1]; exact hi
    rw [List.getElem?_eq_getElem hi2, keysB_get s h i hi2] at h2
    refine ⟨h1, h3, ?_⟩
    have hi3 : i < 2 ^ h := by rw [← h1]; exact hi
    rcases ends_split (T := T) (endsB m sig) (endsOf s i) (endsB_size m sig hs) (endsOf_leZ s i) (Option.some.inj h2).symm (hT' _ (checked_ends m i sig path)) (hT _ (made_ends hi3)) with h4 | h4
    · exact absurd h4 hno
    · exact h4
  · refine absurd (h1.mono fun t ht => ?_) hno
    rcases List.mem_append.1 ht with ht | ht
    · exact hT t (made_texts s h n hh t ht)
    · exact hT' t (checked_path hi t ht)
theorem seal_sound (s : ByteArray) (h : Nat) (m : ByteArray) (i : Nat) (sig path : List ByteArray) (hh : h ≤ 2) (hl : sig.length = 18) (hs : ∀ x ∈ sig, x.size = 16) (hp : ∀ x ∈ path, x.size = 16) (hi : i < 2 ^ path.length)
    (hup : up (2 ^ path.length) i (leafB (listB (endsB m sig))) path.reverse = publicB s h) : (path.length = h ∧ sig = sigB s i m ∧ path = sealPath s h i) ∨ Shown (made s h 15 ++ checked m i sig path) := by
  by_cases hno : Shown (made s h 15 ++ checked m i sig path)
  · exact Or.inr hno
  · obtain ⟨h1, h2, h3⟩ := seal_key (made s h 15 ++ checked m i sig path) s h m i sig path 15 hh hs hp hi hup (fun t ht => List.mem_append_left _ ht) (fun t ht => List.mem_append_right _ ht) hno
    refine Or.inl ⟨h1, sig_ext hl fun k hk => ?_, h2⟩
    have h4 := ends_get hk h3
    have hd := dig_le m k
    have hi3 : i < 2 ^ h := by rw [← h1]; exact hi
    have e : ch s i k 15 = chainB (ch s i k (dig m k)) (15 - dig m k) := by rw [ch_add]; congr 1; omega
    rw [e] at h4
    rcases chain_meet (made s h 15 ++ checked m i sig path) (15 - dig m k) _ _ (fun j hj => List.mem_append_right _ (checked_chain hk hj)) (fun j hj => by rw [ch_add]; exact List.mem_append_left _ (made_ch hi3 hk (by omega))) h4 with h5 | h5
    · exact h5
    · exact absurd h5 hno
theorem seal_binds (s : ByteArray) (h : Nat) (m other : ByteArray) (i : Nat) (hh : h ≤ 2) (hi : i < 2 ^ h) (hne : sumB m ≠ sumB other)
    (hup : up (2 ^ h) i (leafB (listB (endsB other (sigB s i m)))) (sealPath s h i).reverse = publicB s h) : Shown (made s h 30 ++ checked other i (sigB s i m) (sealPath s h i)) := by
  apply Classical.byContradiction
  intro hno
  have hpl : (sealPath s h i).length = h := by
    have e := path_len (keysB s h).length (keysB s h) i rfl (by rw [keysB_len]; exact hi)
    have key : ∀ h i, i < 2 ^ h → length (2 ^ h) i = h := by
      intro h
      induction h with
      | zero => intro i _; exact length_one _ _ (by simp)
      | succ h ih =>
        intro i hi
        have h2 := pow_ge2 h
        have hh := half_two_pow h
        have e2 : 2 ^ (h + 1) = 2 ^ h + 2 ^ h := by rw [Nat.pow_succ]; omega
        by_cases hi2 : i < 2 ^ h
        · rw [length_fst _ _ h2 (by rw [hh]; exact hi2), hh, ih i hi2]; omega
        · rw [length_snd _ _ h2 (by rw [hh]; exact hi2), hh, show 2 ^ (h + 1) - 2 ^ h = 2 ^ h by omega, ih _ (by omega)]; omega
    rw [keysB_len] at e
    exact e.trans (key h i hi)
  obtain ⟨_, _, h3⟩ := seal_key (made s h 30 ++ checked other i (sigB s i m) (sealPath s h i)) s h other i (sigB s i m) (sealPath s h i) 30 hh (fun x hx => isB_len (sigB_isB s i m x hx)) (fun x hx => (path_sizes _ (keysB s h) i rfl x hx).2) (by rw [hpl]; exact hi) (by rw [hpl]; exact hup) (fun t ht => List.mem_append_left _ ht) (fun t ht => List.mem_append_right _ ht) hno
  obtain ⟨k, hk, hd⟩ := dig_smaller m other hne
  have h4 := ends_get hk h3
  have d1 := dig_le m k
  have d2 := dig_le other k
  rw [sigB_getD _ _ _ _ hk, ch_add, show dig m k + (15 - dig other k) = 15 + (dig m k - dig other k) by omega] at h4
  exact hno (chain_loop _ s i k (dig m k - dig other k) (by omega) 15 (List.mem_append_left _ (made_start hi hk)) (fun j hj => List.mem_append_left _ (made_ch hi hk (by omega))) h4)
theorem seal_index (T : List ByteArray) (s : ByteArray) (h n : Nat) (m : ByteArray) (i i' : Nat) (hsz : s.size ≤ Z) (hn : 15 ≤ n) (hi : i < 2 ^ h) (hi' : i' < 2 ^ h) (hh : h ≤ 8) (hT : ∀ t ∈ made s h n, t ∈ T) (hne : i ≠ i') (he : sigB s i m = sigB s i' m) : Shown T := by
  have h1 := sigB_getD s i m 0 (by decide)
  have h2 := sigB_getD s i' m 0 (by decide)
  rw [he, h2] at h1
  have hd := dig_le m 0
  have h8 : 2 ^ h ≤ 2 ^ 8 := Nat.pow_le_pow_right (by omega) hh
  exact chain_starts T s s i' i 0 0 (dig m 0) (hT _ (made_start hi' (by decide))) (hT _ (made_start hi (by decide))) (fun j hj => hT _ (made_ch hi' (by decide) (by omega))) (fun j hj => hT _ (made_ch hi (by decide) (by omega))) h1 (fun e => hne (start_inj hsz hsz (by omega) (by omega) e).2.symm)
theorem seal_secrets (s other : ByteArray) (h : Nat) (hh : h ≤ 2) (hs : s.size ≤ Z) (ho : other.size ≤ Z) (hne : s ≠ other) (he : publicB s h = publicB other h) : Shown (made s h 15 ++ made other h 15) := by
  apply Classical.byContradiction
  intro hno
  have hpos := Nat.one_le_two_pow (n := h)
  have hk : ∀ s, ∀ x ∈ keysB s h, x.size ≤ Z := fun s x hx => by rw [keysB_size s h x hx]; decide
  rcases roots_same (2 ^ h) (keysB s h) (keysB other h) (keysB_len _ _) (keysB_len _ _) (hk s) (hk other) he with h1 | h1
  · have hl1 : 0 < (keysB s h).length := by rw [keysB_len]; omega
    have hl2 : 0 < (keysB other h).length := by rw [keysB_len]; omega
    have e1 : (keysB s h)[0]? = some (keyB s 0) := by rw [List.getElem?_eq_getElem hl1, keysB_get _ _ _ hl1]
    have e2 : (keysB other h)[0]? = some (keyB other 0) := by rw [List.getElem?_eq_getElem hl2, keysB_get _ _ _ hl2]
    rw [h1, e2] at e1
    rcases ends_split (T := made s h 15 ++ made other h 15) (endsOf s 0) (endsOf other 0) (endsOf_leZ s 0) (endsOf_leZ other 0) (Option.some.inj e1).symm (List.mem_append_left _ (made_ends (by omega))) (List.mem_append_right _ (made_ends (by omega))) with h2 | h2
    · exact hno h2
    · have h3 : (endsOf s 0)[0]? = some (ch s 0 0 15) := rfl
      have h4 : (endsOf other 0)[0]? = some (ch other 0 0 15) := rfl
      rw [h2, h4] at h3
      exact hno (chain_starts _ s other 0 0 0 0 15 (List.mem_append_left _ (made_start (by omega) (by decide))) (List.mem_append_right _ (made_start (by omega) (by decide))) (fun j hj => List.mem_append_left _ (made_ch (by omega) (by decide) hj)) (fun j hj => List.mem_append_right _ (made_ch (by omega) (by decide) hj)) (Option.some.inj h3).symm (fun e => hne (start_inj hs ho (by decide) (by decide) e).1))
  · refine hno (h1.mono fun t ht => ?_)
    rcases List.mem_append.1 ht with ht | ht
    · exact List.mem_append_left _ (made_texts s h 15 hh t ht)
    · exact List.mem_append_right _ (made_texts other h 15 hh t ht)
theorem length_pow (h : Nat) : ∀ i, i < 2 ^ h → length (2 ^ h) i = h := by
  induction h with
  | zero => intro i _; exact length_one _ _ (Nat.le_refl _)
  | succ h ih =>
    intro i hi
    have h2 := half_two_pow h
    have h3 := pow_ge2 h
    by_cases hlt : i < half (2 ^ (h + 1))
    · rw [length_fst _ _ h3 hlt, h2, ih i (by rw [h2] at hlt; exact hlt)]; omega
    · have h4 : 2 ^ (h + 1) - half (2 ^ (h + 1)) = 2 ^ h := by rw [h2, Nat.pow_succ]; omega
      rw [length_snd _ _ h3 hlt, h4, ih _ (by rw [h2] at hlt ⊢; rw [Nat.pow_succ] at hi; omega)]; omega
theorem sealPath_len (s : ByteArray) (h i : Nat) (hi : i < 2 ^ h) : (sealPath s h i).length = h := by
  unfold sealPath
  rw [path_len _ _ _ (keysB_len s h) hi, length_pow h i hi]
theorem sealPath_isB (s : ByteArray) (h i : Nat) : ∀ x ∈ sealPath s h i, isB x = true := fun x hx => (path_sizes _ _ _ rfl x hx).1
end Go.Proofs.YtobhpeockinnjaaGreatDoor.Dg

