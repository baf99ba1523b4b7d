/- Walks and laws of this seat, several texts in one. No conditions but those that each theorem states. -/
import Derived.Test.YtpldhempbdionaaGreatDoorEY1
import Derived.Below
import Derived.Tactics
import Derived.Tactics2
import Derived.Defers
import Derived.Laws.Pointers
import Derived.Laws.LoneSync
import Derived.RegionTactic
import Derived.RegionCalls
import Derived.ChangeAlike
import Derived.Laws.CopyOwn
import Derived.Lib.LazyBuf
import Derived.WalkSpells
/- A region that draws its order and stores, as its last doing, into a cell that it loads before ('x = append(x, f(y))'): the loads are taken first, under a condition that is asked only till operation k has come up, which waits for them. In a plain body, and in the body of a range over a function. No conditions. -/
namespace Go.Proofs.YtpldhempbdionaaGreatDoor
open Go Go.RowKit
section
variable {P : Program} {ops : Array Oper} {Q : Exit → Act → World → Prop} {md : Region.Mode} {S : World → Prop} {k : Nat}
def closedB (md : Region.Mode) (ops : Array Oper) (listed : Array Bool) : Bool :=
  (List.range ops.size).all fun j => !listed.getD j false || (match ops[j]? with | none => true | some o => o.after.all fun e => !Region.binds md e || listed.getD e.on false)
def waitsF (md : Region.Mode) (ops : Array Oper) : Nat → Nat → Nat → Bool
  | 0, _, _ => false
  | f + 1, k, i => match ops[k]? with | none => false | some o => o.after.any fun e => Region.binds md e && (e.on == i || waitsF md ops f e.on i)
theorem closed_spec {listed : Array Bool} (h : closedB md ops listed = true) {j : Nat} {o : Oper} (ho : ops[j]? = some o) (hj : listed.getD j false = true) : ∀ e ∈ o.after, Region.binds md e = true → listed.getD e.on false = true := fun e he hb => by
  unfold closedB at h
  have h1 := List.all_eq_true.1 h j (List.mem_range.2 (Array.getElem?_eq_some_iff.1 ho).1)
  rw [ho, hj] at h1
  simp only [Bool.not_true, Bool.false_or] at h1
  have h2 := Array.all_eq_true'.1 h1 e he
  rw [hb] at h2
  simpa using h2
theorem ready_after {listed : Array Bool} {j : Nat} {o : Oper} (ho : ops[j]? = some o) (hj : j ∈ Region.ready md ops listed) : ∀ e ∈ o.after, Region.binds md e = true → listed.getD e.on false = true := fun e he hb => by
  obtain ⟨_, o', ho', hall⟩ := mem_ready.1 hj
  obtain rfl : o = o' := Option.some.inj (ho.symm.trans ho')
  exact hall e he hb
theorem getD_set_same {listed : Array Bool} {j : Nat} (d : Bool) (h : j < listed.size) : (listed.setIfInBounds j true).getD j d = true := by
  simp [Array.getD, h]
theorem getD_false_true {listed : Array Bool} {j : Nat} (h : listed.getD j true = false) : listed.getD j false = false := by
  rcases Nat.lt_or_ge j listed.size with h1 | h1
  · simp [h1] at h ⊢; exact h
  · simp [Nat.not_lt.2 h1] at h
theorem closed_set {listed : Array Bool} (h : closedB md ops listed = true) {j : Nat} (hj : j ∈ Region.ready md ops listed) : closedB md ops (listed.setIfInBounds j true) = true := by
  unfold closedB
  refine List.all_eq_true.2 fun i hi => ?_
  have hmono : ∀ n, listed.getD n false = true → (listed.setIfInBounds j true).getD n false = true := fun n hn => by
    by_cases hjn : j = n
    · subst hjn
      refine getD_set_same _ ?_
      rcases Nat.lt_or_ge j listed.size with h' | h'
      · exact h'
      · simp [Nat.not_lt.2 h'] at hn
    · rw [getD_set_ne false hjn]; exact hn
  cases ho : ops[i]? with
  | none => simp
  | some o =>
    cases hl : (listed.setIfInBounds j true).getD i false with
    | false => simp
    | true =>
      simp only [Bool.not_true, Bool.false_or]
      refine Array.all_eq_true'.2 fun e he => ?_
      cases hb : Region.binds md e with
      | false => simp
      | true =>
        simp only [Bool.not_true, Bool.false_or]
        refine hmono _ ?_
        by_cases hji : j = i
        · subst hji; exact ready_after ho hj e he hb
        · rw [getD_set_ne false hji] at hl
          exact closed_spec h ho hl e he hb
theorem waits_spec {listed : Array Bool} (h : closedB md ops listed = true) : ∀ (f k i : Nat), waitsF md ops f k i = true → (∀ o, ops[k]? = some o → ∀ e ∈ o.after, Region.binds md e = true → listed.getD e.on false = true) → listed.getD i false = true
  | 0, _, _, hw, _ => by cases hw
  | f + 1, k, i, hw, hk => by
    unfold waitsF at hw
    cases ho : ops[k]? with
    | none => rw [ho] at hw; cases hw
    | some o =>
      rw [ho] at hw
      obtain ⟨e, he, hb⟩ := Array.any_eq_true'.1 hw
      rw [Bool.and_eq_true, Bool.or_eq_true] at hb
      have h1 := hk o ho e he hb.1
      rcases hb.2 with h2 | h2
      · rw [beq_iff_eq] at h2; rw [← h2]; exact h1
      · exact waits_spec h f e.on i h2 (fun o' ho' => closed_spec h ho' h1)
/-- S is asked till operation k has come up. -/
def SL (S : World → Prop) (k : Nat) (listed : Array Bool) (w : World) : Prop := listed.getD k false = true ∨ S w
def wpAnyL (P : Program) (md : Region.Mode) (ops : Array Oper) (Q : Exit → Act → World → Prop) (S : World → Prop) (k : Nat) : Nat → Array Bool → Act → World → Prop
  | 0, listed, a, w => Region.ready md ops listed = [] ∧ Q .normal a w
  | fuel + 1, listed, a, w =>
    (Region.ready md ops listed = [] → Q .normal a w) ∧
    ∀ i ∈ Region.ready md ops listed, wpOp P ops Q i (fun a' w' => SL S k (listed.setIfInBounds i true) w' ∧ wpAnyL P md ops Q S k fuel (listed.setIfInBounds i true) a' w') a w
theorem wpAny_of_L : ∀ (fuel : Nat) (listed : Array Bool) (a : Act) (w : World), wpAnyL P md ops Q S k fuel listed a w → wpAny P md ops Q fuel listed a w
  | 0, _, _, _, h => h
  | fuel + 1, _, _, _, h => ⟨h.1, fun i hi => wpOp_mono (fun a' w' h' => wpAny_of_L fuel _ a' w' h'.2) (h.2 i hi)⟩
theorem wpAnyL_first {i f0 : Nat} {oi : Oper} {v : Value} (hi : ops[i]? = some oi) (hsel : ∀ (j : Nat) (o : Oper) cs b, ops[j]? = some o → o.op ≠ .select cs b)
    (hQ : ∀ c a w, Q (.panic c) (a.put oi.dst v) w → Q (.panic c) a w) (hk : waitsF md ops f0 k i = true ∨ ops.size ≤ k) :
    ∀ (fuel : Nat) (listed : Array Bool) (a : Act) (w : World),
      (∀ j oj, ops[j]? = some oj → j ≠ i → listed.getD j true = false → (∀ e ∈ oj.after, Region.binds md e = true → e.on ≠ i) → oi.apart ops oj = true) →
      i ∈ Region.ready md ops listed → closedB md ops listed = true → listed.getD k false = false → YieldsIf P ops S oi v a → S w →
      wpAnyL P md ops Q S k fuel (listed.setIfInBounds i true) (a.put oi.dst v) w → wpAnyL P md ops Q S k (fuel + 1) listed a w := by
  intro fuel
  induction fuel with
  | zero =>
    intro listed a w _ hr _ _ hy hS H
    refine ⟨fun h => (by rw [h] at hr; cases hr), fun j hj => ?_⟩
    by_cases hji : j = i
    · subst hji; exact hy.wpOp hi hS ⟨Or.inr hS, H⟩
    · have := ready_mono hj hji
      rw [H.1] at this
      cases this
  | succ fuel ih =>
    intro listed a w hfree hr hcl hlk hy hS H
    refine ⟨fun h => (by rw [h] at hr; cases hr), fun j hj => ?_⟩
    by_cases hji : j = i
    · subst hji; exact hy.wpOp hi hS ⟨Or.inr hS, H⟩
    · have hiu := getD_false_true (mem_ready.1 hr).1
      have hall' : ∀ j, j ∈ Region.ready md ops listed → j ≠ k := fun j hj e => by
        subst e
        rcases hk with hk | hk
        · have := waits_spec hcl f0 j i hk (fun o ho => ready_after ho hj)
          rw [hiu] at this
          cases this
        · obtain ⟨_, o, ho, _⟩ := mem_ready.1 hj
          have := (Array.getElem?_eq_some_iff.1 ho).1
          omega
      have hjk := hall' j hj
      have hik := hall' i hr
      have h1 := H.2 j (ready_mono hj hji)
      obtain ⟨hjun, oj, hoj, hall⟩ := mem_ready.1 hj
      have hnot : ∀ e ∈ oj.after, Region.binds md e = true → e.on ≠ i := fun e he hb heq => by
        have h1 := hall e he hb
        rw [heq, hiu] at h1
        cases h1
      have h2 := wpOp_putIf hoj (hfree j oj hoj hji hjun hnot) (fun cs b => hsel i oi cs b hi) (fun cs b => hsel j oj cs b hoj) hQ hy h1
      have hfree' : ∀ n on, ops[n]? = some on → n ≠ i → (listed.setIfInBounds j true).getD n true = false →
          (∀ e ∈ on.after, Region.binds md e = true → e.on ≠ i) → oi.apart ops on = true := fun n on hn hni hun hno => by
        refine hfree n on hn hni ?_ hno
        by_cases hjn : j = n
        · subst hjn; exact hjun
        · rw [getD_set_ne true hjn] at hun; exact hun
      refine wpOp_mono (fun a' w' h3 => ?_) h2
      have hlk' : (listed.setIfInBounds j true).getD k false = false := by rw [getD_set_ne false hjk]; exact hlk
      have hS' : S w' := by
        rcases h3.2.1 with h4 | h4
        · rw [getD_set_ne false hjk, getD_set_ne false hik, hlk] at h4
          cases h4
        · exact h4
      refine ⟨Or.inr hS', ih (listed.setIfInBounds j true) a' w' hfree' (ready_mono hr (Ne.symm hji)) (closed_set hcl hj) hlk' h3.1 hS' ?_⟩
      rw [Array.setIfInBounds_comm _ _ hji]
      exact h3.2.2
theorem wpAnyL_take {i f0 : Nat} {oi : Oper} {v : Value} {fuel : Nat} {listed : Array Bool} {a : Act} {w : World} (hi : ops[i]? = some oi)
    (hs : Region.noSelect ops = true) (hf : Region.free md ops listed i = true) (hr : (Region.ready md ops listed).contains i = true)
    (hk : (waitsF md ops f0 k i || decide (ops.size ≤ k)) = true) (hcl : (closedB md ops listed && !listed.getD k false) = true)
    (hQ : ∀ c a w, Q (.panic c) (a.put oi.dst v) w → Q (.panic c) a w) (hy : YieldsIf P ops S oi v a) (hS : S w)
    (h : wpAnyL P md ops Q S k fuel (listed.setIfInBounds i true) (a.put oi.dst v) w) : wpAnyL P md ops Q S k (fuel + 1) listed a w := by
  rw [Bool.and_eq_true] at hcl
  rw [Bool.or_eq_true, decide_eq_true_eq] at hk
  exact wpAnyL_first hi (Region.noSelect_spec hs) hQ hk fuel listed a w (Region.free_spec hi hf) (by simpa using hr) hcl.1 (by simpa using hcl.2) hy hS h
/-- The one operation that may come up comes up. -/
theorem wpAnyL_one {i : Nat} {o : Oper} {fuel : Nat} {listed : Array Bool} {a : Act} {w : World} (hr : Region.ready md ops listed = [i]) (ho : ops[i]? = some o)
    (h : ∀ K' : Act → World → Prop, Hid (∀ a w, SL S k (listed.setIfInBounds i true) w → wpAnyL P md ops Q S k fuel (listed.setIfInBounds i true) a w → K' a w) → if Region.wanted o (yielded ops a.tmps) = true then Oper.wp P o a w K' Q else K' (a.put o.dst undef) w) : wpAnyL P md ops Q S k (fuel + 1) listed a w :=
  ⟨fun h0 => absurd (hr.symm.trans h0) (by simp), fun j hj => by
    rw [hr] at hj
    obtain rfl := List.mem_singleton.1 hj
    exact wpOp_step ho (fun K' hK => h K' (fun a w hS hW => hK a w ⟨hS, hW⟩))⟩
theorem wpAnyL_done {listed : Array Bool} {a : Act} {w : World} (hr : Region.ready md ops listed = []) (h : Q .normal a w) : ∀ fuel, wpAnyL P md ops Q S k fuel listed a w
  | 0 => ⟨hr, h⟩
  | _ + 1 => ⟨fun _ => h, by rw [hr]; simp⟩
theorem wp_region_L (S : World → Prop) (k : Nat) {id : Nat} {a : Act} {w : World} (hm : P.follows .mixedOrders = true) (h : wpAnyL P .any ops Q S k ops.size (Array.replicate ops.size false) a w.drew) : (Code.region id ops true).wp P Q a w :=
  wp_region_any hm (wpAny_of_L _ _ _ _ h)
end
end Go.Proofs.YtpldhempbdionaaGreatDoor
/- Lists that visits write: Valid; what a list written by visits is good for. No conditions but those that each theorem states. -/
namespace Go.Proofs.YtpldhempbdionaaGreatDoor
open Go Go.RowKit Go.Sort Go.Maps
/-- An append to strings of the call's own, with what it leaves. -/
theorem wp_ag {w : World} {o : Oper} {a : Act} {K : Act → World → Prop} {Q : Exit → Act → World → Prop} (sl x : Operand)
    (ho : o.op = .call { callee := .builtin .append, args := #[sl, x], argTypes := #[28, 28] })
    (B : Nat) (v : Value) (l l' : List ByteArray) (hs : a.eval sl = v) (hO : OwnS w B v l) (ad : Addr) (n cap : Nat) (hx : a.eval x = .slice (some ad) n cap) (hn : l'.length = n)
    (hsrc : ∀ (j : Nat) s, l'[j]? = some s → w.cell? (ad.add j) = some (.string s)) (hlen : l.length + n ≤ 1099511627776) (hB : B ≤ w.heap.size)
    (h : ∀ v' w', OwnS w' B v' (l ++ l') → w.grownBy w' v.ownBlock → (v'.ownBlock = v.ownBlock ∨ v'.ownBlock = some w.heap.size) → K (a.put o.dst v') w') : o.wp Tryz.prog a w K Q := by
  subst hn
  obtain ⟨i, h1, h2, h3, h4⟩ := info_parts strInfo
  have hown : w.ownsRow B 9 1 v l.length (l.map Value.string) := by
    have h9 := hO
    unfold OwnS OwnV at h9
    rw [List.length_map] at h9
    exact h9
  obtain ⟨v', w', hrun, h5, h6, _, h7⟩ := run_append_own_at (P := Tryz.prog) w B 28 o.type 9 i (.string ⟨#[]⟩) 1 16 Tryz.underlying28 h1 h2 h3 h4 rfl (by omega) v l.length (l.map Value.string) hown ad l'.length cap (l'.map Value.string) (by rw [Nat.mul_one, List.length_map]) (fun j u hj => by
    rw [List.getElem?_map] at hj
    cases hq : l'[j]? with
    | none => rw [hq] at hj; cases hj
    | some z => rw [hq] at hj; cases hj; exact hsrc j z hq) (fun u hu => by obtain ⟨s, _, rfl⟩ := List.mem_map.1 hu; rfl) (by unfold maxLen; omega) (by omega) hB
  have h5' : OwnS w' B v' (l ++ l') := by
    unfold OwnS OwnV
    rw [List.map_append, List.length_append, List.length_map, List.length_map]
    exact h5
  unfold Oper.wp execOp
  simp only [ho, resolve, invoke, builtin, Sem.run_bind, Sem.run_pure, Result.andThen_ok, List.map_toArray, List.map_cons, List.map_nil, hs, hx, hrun]
  exact h v' w' h5' h6 h7
theorem step_ag {w : World} {ops : Array Oper} {rest : List Oper} {o : Oper} {a : Act} {Q : Exit → Act → World → Prop} (hgd : Region.wanted o (yielded ops a.tmps) = true) (sl x : Operand)
    (ho : o.op = .call { callee := .builtin .append, args := #[sl, x], argTypes := #[28, 28] })
    (B : Nat) (v : Value) (l l' : List ByteArray) (hs : a.eval sl = v) (hO : OwnS w B v l) (ad : Addr) (n cap : Nat) (hx : a.eval x = .slice (some ad) n cap) (hn : l'.length = n)
    (hsrc : ∀ (j : Nat) s, l'[j]? = some s → w.cell? (ad.add j) = some (.string s)) (hlen : l.length + n ≤ 1099511627776) (hB : B ≤ w.heap.size)
    (h : ∀ v' w', OwnS w' B v' (l ++ l') → w.grownBy w' v.ownBlock → (v'.ownBlock = v.ownBlock ∨ v'.ownBlock = some w.heap.size) → wpList Tryz.prog ops Q rest (a.put o.dst v') w') : wpList Tryz.prog ops Q (o :: rest) a w :=
  wpList_wanted hgd fun _ hK => wp_ag sl x ho B v l l' hs hO ad n cap hx hn hsrc hlen hB fun v' w' h1 h2 h3 => hK _ _ (h v' w' h1 h2 h3)
theorem OwnV.same {w w' : World} {B : Nat} {e : TypeId} {v : Value} {xs : List Value} (h : OwnV w B e v xs) (hg : ∀ g, v.ownBlock = some g → w'.heap[g]? = w.heap[g]?) : OwnV w' B e v xs := by
  obtain ⟨h1, h2⟩ := h
  refine ⟨h1, ?_⟩
  rcases h2 with h2 | ⟨g, cap, cur, hv, hg', hh, r⟩
  · exact Or.inl h2
  · exact Or.inr ⟨g, cap, cur, hv, hg', (hg g (by rw [hv]; rfl)).trans hh, r⟩
theorem Its.same {w w' : World} {B : Nat} {A : Option Addr} {l : List Dg.It} (h : Its w B A l) (hg : ∀ g, g < B → w'.heap[g]? = w.heap[g]?) : Its w' B A l :=
  ⟨fun h0 => by
    obtain ⟨b, off, e, hlt, hc⟩ := h.at_ h0
    exact ⟨b, off, e, hlt, fun j x hj i u hu => (World.cell?_of_block (a := ⟨b, off + j * 7 + i, none⟩) (hg b hlt)).trans (hc j x hj i u hu)⟩⟩
/-- The list in the variable at block bo. -/
structure OutAt (bo n0 : Nat) (W : World) (v : Value) (l : List ByteArray) : Prop where
  row : W.heap[bo]? = some (.cells #[v] 28 (0, 0))
  own : OwnS W n0 v l
def outS (bo : Nat) (v : Value) : List Nat := bo :: v.ownBlock.toList
theorem outS_own {bo : Nat} {v : Value} {g : Nat} (h : v.ownBlock = some g) : g ∈ outS bo v := by unfold outS; rw [h]; simp
theorem mem_outS {bo : Nat} {v : Value} {g : Nat} (h : g ∈ outS bo v) : g = bo ∨ v.ownBlock = some g := by
  unfold outS at h
  rcases List.mem_cons.1 h with h | h
  · exact Or.inl h
  · cases hv : v.ownBlock with
    | none => rw [hv] at h; cases h
    | some g' => rw [hv] at h; simp at h; exact Or.inr (by rw [h])
theorem OutAt.same {bo n0 : Nat} {W W' : World} {v : Value} {l : List ByteArray} (h : OutAt bo n0 W v l) (hg : ∀ g ∈ outS bo v, W'.heap[g]? = W.heap[g]?) : OutAt bo n0 W' v l :=
  ⟨(hg bo (List.mem_cons_self ..)).trans h.row, OwnV.same h.own fun g hv => hg g (outS_own hv)⟩
/-- What a visit leaves of the list. -/
def OutStep (bo n0 : Nat) (W W' : World) (v : Value) (l' : List ByteArray) : Prop := ∃ v', OutAt bo n0 W' v' l' ∧ Off (outS bo v) W W' ∧ ∀ g, v'.ownBlock = some g → v.ownBlock = some g ∨ W.heap.size ≤ g
theorem OutStep.none {bo n0 : Nat} {W W' : World} {v : Value} {l : List ByteArray} (h : OutAt bo n0 W v l) (hb : Below W.heap.size W W') : OutStep bo n0 W W' v l :=
  ⟨v, h.same (fun g hg => hb.block g (by
    rcases mem_outS hg with rfl | e
    · exact lt_of_block h.row
    · exact (OwnV.lt h.own e).2)), Off.of_below hb, fun g hg => Or.inl hg⟩
theorem out_visit {l : List Dg.It} {F : Nat} {lb : Array Value} {B0 n0 bo : Nat} (hb0 : B0 ≤ bo) (hbn : bo < n0) (Low : World → Prop) (hLow : ∀ W W', Low W → (∀ g, g < n0 → g ≠ bo → W'.heap[g]? = W.heap[g]?) → Low W') (f : List (List ByteArray) → List ByteArray)
    (en : ∀ args w, (callFunc F args).run Tryz.prog w = .ok (.enter F args) w)
    (hc : ∀ (k : Nat) (W : World) (v : Value) (o : List ByteArray) (A : Option Addr) (c : Nat) (vs : List (List ByteArray)) (s : Dg.Wk), k < l.length → Low W → OutAt bo n0 W v (f vs) → n0 ≤ W.heap.size → Dg.walkTo l (k + 1) = some (vs ++ [o], s) → vs.length = k → Strs W W.heap.size A o → o.length ≤ c →
      Calls Tryz.prog F (#[.int .i64 (k : Int), .slice A o.length c] ++ lb) W fun e W' => e = .returned (.tuple #[]) ∧ OutStep bo n0 W W' v (f (vs ++ [o]))) :
    Visit l F lb B0 n0 (fun k S W => ∃ v vs s, S = outS bo v ∧ OutAt bo n0 W v (f vs) ∧ Dg.walkTo l k = some (vs, s) ∧ Low W) where
  enters := en
  stable := fun k S W W' h hS hb => by
    obtain ⟨v, vs, s, rfl, h1, h2, h3⟩ := h
    exact ⟨v, vs, s, rfl, h1.same hS, h2, hLow W W' h3 fun g hg _ => hb.block g hg⟩
  lt := fun k S W h g hg => by
    obtain ⟨v, vs, s, rfl, h1, h2, h3⟩ := h
    rcases mem_outS hg with rfl | e
    · exact ⟨hb0, lt_of_block h1.row⟩
    · have := OwnV.lt h1.own e
      omega
  call := fun k S W o A c vs s hk h hw hvl hS hoc hn => by
    obtain ⟨v, vs0, s0, rfl, h1, h2, h3⟩ := h
    obtain ⟨vs1, s1, o1, e1, _, e2⟩ := Dg.walk_step hk hw
    rw [h2] at e1
    cases e1
    obtain ⟨rfl, e3⟩ := List.append_inj' e2 rfl
    refine (hc k W v o A c vs s hk h3 h1 hn hw hvl hS hoc).mono ?_
    rintro e W' ⟨rfl, v', h4, h5, h6⟩
    refine ⟨rfl, outS bo v', ⟨v', vs ++ [o], s, rfl, h4, hw, hLow W W' h3 fun g hg hgb => h5.block g (by omega) fun hm => ?_⟩, h5, fun g hg => ?_⟩
    · rcases mem_outS hm with e | e
      · exact hgb e
      · have := (OwnV.lt h1.own e).1
        omega
    · rcases mem_outS hg with rfl | e
      · exact Or.inl (List.mem_cons_self ..)
      · exact (h6 g e).imp outS_own id
end Go.Proofs.YtpldhempbdionaaGreatDoor
/- Valid and Below of package code. No conditions but those that each theorem states. -/
namespace Go.Proofs.YtpldhempbdionaaGreatDoor
open Go Go.RowKit Go.Sort Go.Maps
theorem valid1_any (k : Int) (A : Option Addr) (n c : Nat) (w : World) : Calls Tryz.prog 36 #[.int .i64 k, .slice A n c] w fun e w' => e = .returned (.tuple #[]) ∧ w' = w := by
  go_enter Tryz.func36, Tryz.ntmps36
  go_wp2
  go_end0
  exact ⟨rfl, rfl⟩
theorem valid_visit (l : List Dg.It) (B0 n0 : Nat) : Visit l 36 #[] B0 n0 (fun _ S _ => S = []) where
  enters := enters_of Tryz.func36 (by kernel_rfl) rfl
  stable := fun _ _ _ _ h _ _ => h
  lt := fun _ _ _ h g hg => by rw [h] at hg; cases hg
  call := fun k S W o A c vs s _ h _ _ _ _ _ => by
    refine (valid1_any (k : Int) A o.length c W).mono ?_
    rintro e W' ⟨rfl, rfl⟩
    subst h
    exact ⟨rfl, [], rfl, Off.refl _ _, fun g hg => by cases hg⟩
theorem Code.valid_of (l : List Dg.It) (A : Option Addr) (n c : Nat) (hl : l.length = n) (hw : ∀ x ∈ l, ItW x) (hn : n ≤ 1048576) (w : World) (hI : Its w w.heap.size A l) (R : Bool) (hR : Dg.validC l = R) :
    Calls Tryz.prog 11 #[.agg #[.slice A n c]] w fun e w' => e = .returned (.bool R) ∧ Below w.heap.size w w' := by
  have hx := Below.news (Below.refl w.heap.size w) (.cells #[.slice A n c] 24)
  have hcc := iCells0 (heap_alloc_new w (.cells #[.slice A n c] 24))
  have HI := hide hI; have HR := hide hR; have HW := hide hw; have HL := hide hl
  clear hI hR hw hl
  go_enter Tryz.func11, Tryz.ntmps11
  go_wp2_with fail
  generalize w.alloc (.cells #[.slice A n c] 24) = w1 at *
  refine (walk_any l A n c HL.out HW.out hn w.heap.size w1 (HI.out.below hx) hx.size 36 #[] (fun _ S _ => S = []) (valid_visit l _ _) [] rfl R HR.out).mono ?_
  rintro e w2 ⟨rfl, k, S, _, _, ho, _⟩
  have hb := bnext hx ho.nil
  clear hcc
  go_wp2
  go_ret
  exact ⟨rfl, hb⟩
/-- The walk, when its visits write a list. -/
theorem out_walk {F : Nat} {lb : Array Value} (l : List Dg.It) (A : Option Addr) (n c : Nat) (hl : l.length = n) (hw : ∀ x ∈ l, ItW x) (hn : n ≤ 1048576) (B0 bo : Nat) (w : World) (hI : Its w B0 A l) (hB : B0 ≤ bo) (hbo : bo < w.heap.size) (Low : World → Prop) (hLow : ∀ W W', Low W → (∀ g, g < w.heap.size → g ≠ bo → W'.heap[g]? = W.heap[g]?) → Low W') (f : List (List ByteArray) → List ByteArray)
    (en : ∀ args w, (callFunc F args).run Tryz.prog w = .ok (.enter F args) w)
    (hc : ∀ (k : Nat) (W : World) (v : Value) (o : List ByteArray) (A : Option Addr) (c : Nat) (vs : List (List ByteArray)) (s : Dg.Wk), k < l.length → Low W → OutAt bo w.heap.size W v (f vs) → w.heap.size ≤ W.heap.size → Dg.walkTo l (k + 1) = some (vs ++ [o], s) → vs.length = k → Strs W W.heap.size A o → o.length ≤ c →
      Calls Tryz.prog F (#[.int .i64 (k : Int), .slice A o.length c] ++ lb) W fun e W' => e = .returned (.tuple #[]) ∧ OutStep bo w.heap.size W W' v (f (vs ++ [o])))
    (h0 : OutAt bo w.heap.size w (.slice none 0 0) (f [])) (hl0 : Low w) (R : Bool) (hR : Dg.validC l = R) :
    Calls Tryz.prog 35 #[.agg #[.slice A n c], .func (.func F) #[] lb] w fun e w' => e = .returned (.bool R) ∧ ∃ v L, (R = true → L = f (Dg.visits l)) ∧ OutAt bo w.heap.size w' v L ∧ Low w' ∧ Below bo w w' ∧ w.heap.size ≤ w'.heap.size := by
  refine (walk_any l A n c hl hw hn B0 w hI (by omega) F lb _ (out_visit hB hbo Low hLow f en hc) [bo] ⟨.slice none 0 0, [], ⟨[], []⟩, rfl, h0, rfl, hl0⟩ R hR).mono ?_
  rintro e w' ⟨rfl, k, S, hk, ⟨v, vs, s, rfl, h1, h2, h3⟩, ho, _⟩
  refine ⟨rfl, v, f vs, fun hr => ?_, h1, h3, ho.below (by omega) (fun g hg => by rw [List.mem_singleton.1 hg]; exact Nat.le_refl _), ho.size⟩
  have := hk hr
  subst this
  rw [hr] at hR
  obtain ⟨s', h4, _⟩ := Dg.valid_walk hR
  rw [hl] at h4
  rw [h2] at h4
  cases h4
  rfl
/-- The Ids of the items at whose visit an Id is open. -/
def belowF (l : List Dg.It) (id : ByteArray) (vs : List (List ByteArray)) : List ByteArray := ((vs.zip l).filter fun p => Dg.inB p.1 id).map fun p => p.2.id
theorem setCell_row1 {w : World} {g : Nat} {a : Value} {T : TypeId} (h : w.heap[g]? = some (.cells #[a] T (0, 0))) (u : Value) : (w.setCell ⟨g, 0, none⟩ u).heap[g]? = some (.cells #[u] T (0, 0)) := by
  simp only [World.setCell, Array.getElem?_modify, h]
  simp
theorem zip_snoc {α β : Type} (vs : List α) (l : List β) (o : α) (hk : vs.length < l.length) : (vs ++ [o]).zip l = vs.zip l ++ [(o, l[vs.length])] := by
  have e : l = l.take vs.length ++ l[vs.length] :: l.drop (vs.length + 1) := by
    rw [← List.drop_eq_getElem_cons hk, List.take_append_drop]
  have h1 : vs.zip l = vs.zip (l.take vs.length) := by
    conv => lhs; rw [e]
    have h2 : (vs ++ []).zip (l.take vs.length ++ l[vs.length] :: l.drop (vs.length + 1)) = vs.zip (l.take vs.length) ++ [].zip (l[vs.length] :: l.drop (vs.length + 1)) := List.zip_append (by rw [List.length_take]; omega)
    rw [List.append_nil] at h2
    rw [h2]
    simp
  conv => lhs; rw [e]
  rw [List.zip_append (by rw [List.length_take]; omega), h1]
  rfl
theorem belowF_snoc (l : List Dg.It) (id : ByteArray) (vs : List (List ByteArray)) (o : List ByteArray) (hk : vs.length < l.length) : belowF l id (vs ++ [o]) = if Dg.inB o id = true then belowF l id vs ++ [l[vs.length].id] else belowF l id vs := by
  unfold belowF
  rw [zip_snoc vs l o hk, List.filter_append, List.map_append]
  by_cases h : Dg.inB o id = true
  · rw [if_pos h, List.filter_cons_of_pos (by exact h), List.filter_nil]; rfl
  · rw [if_neg h, List.filter_cons_of_neg (by exact h), List.filter_nil, List.map_nil, List.append_nil]
theorem belowF_len (l : List Dg.It) (id : ByteArray) (vs : List (List ByteArray)) : (belowF l id vs).length ≤ l.length := by
  unfold belowF
  rw [List.length_map]
  exact Nat.le_trans (List.length_filter_le _ _) (by rw [List.length_zip]; omega)
set_option maxRecDepth 100000 in
set_option maxHeartbeats 4000000 in
theorem below1_any (l : List Dg.It) (AI : Option Addr) (n c : Nat) (hl : l.length = n) (id : ByteArray) (B0 n0 bo b2 b3 : Nat) (hbo : bo < n0) (h2 : b2 < n0 ∧ b2 ≠ bo) (hB2 : B0 ≤ bo) (k : Nat) (hk : k < l.length) (W : World) (hI : Its W B0 AI l)
    (r2 : W.heap[b2]? = some (.cells #[.slice AI n c] 24 (0, 0))) (r3 : W.heap[b3]? = some (.cells #[.string id] 9 (0, 0))) (v : Value) (L : List ByteArray) (hO : OutAt bo n0 W v L) (hLl : L.length ≤ 1048576) (hn0 : n0 ≤ W.heap.size)
    (o : List ByteArray) (A : Option Addr) (m co : Nat) (hS : Strs W W.heap.size A o) (hm : o.length = m) (hom : m ≤ 1048576) :
    Calls Tryz.prog 37 #[.int .i64 (k : Int), .slice A m co, .pointer (some ⟨b3, 0, none⟩), .pointer (some ⟨bo, 0, none⟩), .pointer (some ⟨b2, 0, none⟩)] W fun e W' => e = .returned (.tuple #[]) ∧ OutStep bo n0 W W' v (if Dg.inB o id = true then L ++ [l[k].id] else L) := by
  have c3 := iCells0 r3
  obtain ⟨ib, hib⟩ : ∃ b, Dg.inB o id = b := ⟨_, rfl⟩
  rw [hib]
  have HM := hide hm; have HIB := hide hib
  clear hm hib
  go_enter Tryz.func37, Tryz.ntmps37
  go_wp2_with fail
  refine (scontains_s A m co o id _ HM.out (by omega) hS ib HIB.out).mono ?_
  rintro e w4 ⟨rfl, hw4⟩
  rw [hw4]
  clear hw4 HIB HM hS
  cases ib with
  | false =>
    go_wp2
    go_end0
    exact ⟨rfl, OutStep.none hO (Below.refl _ _)⟩
  | true =>
    obtain ⟨b, off, rfl, hbl, hcc⟩ := hI.get hk
    have p1 : W.cell? ⟨b, off + k * 7 + 1, none⟩ = some (.string l[k].id) := hcc 1 _ rfl
    have hidx : (k : Int) < (n : Int) := by omega
    have hk0 : (0 : Int) ≤ (k : Int) := by omega
    obtain ⟨X, hX⟩ : ∃ X, l[k].id = X := ⟨_, rfl⟩
    rw [hX] at p1
    have HX := hide hX
    clear hX
    have hc2 := iCells0 r2
    have hco := iCells0 hO.row
    clear hcc c3 r3
    go_upto_region 1 with (fail)
    have hmx : Tryz.prog.follows .mixedOrders = true := by kernel_rfl
    have hOd : OutAt bo n0 W.drew v L := ⟨hO.row, hO.own.below (Below.refl W.heap.size W).drew⟩
    have hHeld : (fun X_ : World => X_.cell? ⟨bo, 0, none⟩ = some v ∧ X_.cell? ⟨b2, 0, none⟩ = some (.slice (some ⟨b, off, none⟩) n c) ∧ X_.cell? ⟨b, off + k * 7 + 1, none⟩ = some (.string X)) W.drew := ⟨hco, hc2, p1⟩
    have hsz : W.heap.size = W.drew.heap.size := rfl
    have hgr0 : Off (outS bo v) W W.drew := Off.of_below (Below.refl _ _).drew
    have r2d : W.drew.heap[b2]? = some (.cells #[.slice (some ⟨b, off, none⟩) n c] 24 (0, 0)) := r2
    refine wp_region_noPanic ?_
    refine wp_region_L (fun X_ : World => X_.cell? ⟨bo, 0, none⟩ = some v ∧ X_.cell? ⟨b2, 0, none⟩ = some (.slice (some ⟨b, off, none⟩) n c) ∧ X_.cell? ⟨b, off + k * 7 + 1, none⟩ = some (.string X)) 9 hmx ?_
    rw [hsz] at hn0
    generalize W.drew = u0 at *
    clear p1 hc2 hco r2 hO hI hsz
    refine wpAnyL_take (i := 0) (f0 := 14) (v := ?_) rfl (by decide +kernel) (by decide +kernel) (by decide +kernel) (by decide +kernel) (by decide +kernel) (fun _ _ _ h => h) (Or.inl ⟨by rfl, ?_⟩) hHeld ?_
    rotate_left
    · intro wS hS; obtain ⟨hS1, hS2, hS3⟩ := hS; go_simp; (try with_reducible rfl)
    simp only [Act.put, List.getElem_toArray, List.getElem_cons_zero, List.setIfInBounds_toArray, List.set_cons_succ, List.set_cons_zero]
    refine wpAnyL_take (i := 1) (f0 := 14) (v := ?_) rfl (by decide +kernel) (by decide +kernel) (by decide +kernel) (by decide +kernel) (by decide +kernel) (fun _ _ _ h => h) (Or.inl ⟨by rfl, ?_⟩) hHeld ?_
    rotate_left
    · intro wS hS; obtain ⟨hS1, hS2, hS3⟩ := hS; go_simp; (try with_reducible rfl)
    simp only [Act.put, List.getElem_toArray, List.getElem_cons_succ, List.getElem_cons_zero, List.setIfInBounds_toArray, List.set_cons_succ, List.set_cons_zero]
    refine wpAnyL_take (i := 2) (f0 := 14) (v := ?_) rfl (by decide +kernel) (by decide +kernel) (by decide +kernel) (by decide +kernel) (by decide +kernel) (fun _ _ _ h => h) (Or.inl ⟨by rfl, ?_⟩) hHeld ?_
    rotate_left
    · intro wS hS; obtain ⟨hS1, hS2, hS3⟩ := hS; go_simp; (try with_reducible rfl)
    simp only [Act.put, List.getElem_toArray, List.getElem_cons_succ, List.getElem_cons_zero, List.setIfInBounds_toArray, List.set_cons_succ, List.set_cons_zero]
    refine wpAnyL_take (i := 3) (f0 := 14) (v := ?_) rfl (by decide +kernel) (by decide +kernel) (by decide +kernel) (by decide +kernel) (by decide +kernel) (fun _ _ _ h => h) (Or.inl ⟨by rfl, ?_⟩) hHeld ?_
    rotate_left
    · intro wS hS; obtain ⟨hS1, hS2, hS3⟩ := hS; go_simp; (try with_reducible rfl)
    simp only [Act.put, List.getElem_toArray, List.getElem_cons_succ, List.getElem_cons_zero, List.setIfInBounds_toArray, List.set_cons_succ, List.set_cons_zero]
    refine wpAnyL_take (i := 4) (f0 := 14) (v := ?_) rfl (by decide +kernel) (by decide +kernel) (by decide +kernel) (by decide +kernel) (by decide +kernel) (fun _ _ _ h => h) (Or.inl ⟨by rfl, ?_⟩) hHeld ?_
    rotate_left
    · intro wS hS; obtain ⟨hS1, hS2, hS3⟩ := hS; go_simp; (try with_reducible rfl)
    simp only [Act.put, List.getElem_toArray, List.getElem_cons_succ, List.getElem_cons_zero, List.setIfInBounds_toArray, List.set_cons_succ, List.set_cons_zero]
    refine wpAnyL_take (i := 5) (f0 := 14) (v := ?_) rfl (by decide +kernel) (by decide +kernel) (by decide +kernel) (by decide +kernel) (by decide +kernel) (fun _ _ _ h => h) (Or.inl ⟨by rfl, ?_⟩) hHeld ?_
    rotate_left
    · intro wS hS; obtain ⟨hS1, hS2, hS3⟩ := hS; go_simp; (try with_reducible rfl)
    simp only [Act.put, List.getElem_toArray, List.getElem_cons_succ, List.getElem_cons_zero, List.setIfInBounds_toArray, List.set_cons_succ, List.set_cons_zero]
    refine wpAnyL_take (i := 6) (f0 := 14) (v := ?_) rfl (by decide +kernel) (by decide +kernel) (by decide +kernel) (by decide +kernel) (by decide +kernel) (fun _ _ _ h => h) (Or.inl ⟨by rfl, ?_⟩) hHeld ?_
    rotate_left
    · intro wS hS; obtain ⟨hS1, hS2, hS3⟩ := hS; go_simp; (try with_reducible rfl)
    simp only [Act.put, List.getElem_toArray, List.getElem_cons_succ, List.getElem_cons_zero, List.setIfInBounds_toArray, List.set_cons_succ, List.set_cons_zero]
    refine wpAnyL_one (i := 7) (by decide +kernel) (by rfl) (fun K hK => ?_)
    rw [if_pos (by rfl)]
    go_simp
    have hx7 := Below.news (Below.refl u0.heap.size u0) (.cells #[.string X] 9)
    have hO7 : OutAt bo n0 (u0.alloc (.cells #[.string X] 9)) v L := hOd.same (fun g hg => hx7.block g (by
      rcases mem_outS hg with rfl | e
      · exact lt_of_block hOd.row
      · exact (OwnV.lt hOd.own e).2))
    have hHeld7 : (fun X_ : World => X_.cell? ⟨bo, 0, none⟩ = some v ∧ X_.cell? ⟨b2, 0, none⟩ = some (.slice (some ⟨b, off, none⟩) n c) ∧ X_.cell? ⟨b, off + k * 7 + 1, none⟩ = some (.string X)) (u0.alloc (.cells #[.string X] 9)) := ⟨(hx7.cell (by show bo < _; omega)).trans hHeld.1, (hx7.cell (by show b2 < _; omega)).trans hHeld.2.1, (hx7.cell (by show b < _; omega)).trans hHeld.2.2⟩
    refine hK.out _ _ (Or.inr hHeld7) ?_
    clear hK K hHeld
    try simp only [Act.put, List.getElem_toArray, List.getElem_cons_succ, List.getElem_cons_zero, List.setIfInBounds_toArray, List.set_cons_succ, List.set_cons_zero]
    refine wpAnyL_one (i := 8) (by decide +kernel) (by rfl) (fun K hK => ?_)
    rw [if_pos (by rfl)]
    refine wp_ag (.tmp 10) (.tmp 17) (by rfl) n0 v L [X] (by rfl) hO7.own ⟨u0.heap.size, 0, none⟩ 1 1 (by rfl) rfl (fun j s hj => by
      cases j with
      | zero => cases hj; exact cell_of_row _ _ _ _ _ (0, 0) (heap_alloc_new u0 _)
      | succ j => cases hj) (by omega) (Nat.le_trans hn0 hx7.size) ?_
    intro v8 u8 hO8 hg8 hat8
    have hvb : ∀ g, v.ownBlock = some g → n0 ≤ g := fun g hg => (OwnV.lt hOd.own hg).1
    have hrow8 : ∀ g, g < n0 → u8.heap[g]? = (u0.alloc (.cells #[.string X] 9)).heap[g]? := fun g hg => hg8.block g (Nat.lt_of_lt_of_le hg (Nat.le_trans hn0 hx7.size)) (fun e => by have := hvb g e.symm; omega)
    have hHeld8 : (fun X_ : World => X_.cell? ⟨bo, 0, none⟩ = some v ∧ X_.cell? ⟨b2, 0, none⟩ = some (.slice (some ⟨b, off, none⟩) n c) ∧ X_.cell? ⟨b, off + k * 7 + 1, none⟩ = some (.string X)) u8 := ⟨(World.cell?_of_block (a := ⟨bo, 0, none⟩) (hrow8 bo hbo)).trans hHeld7.1, (World.cell?_of_block (a := ⟨b2, 0, none⟩) (hrow8 b2 h2.1)).trans hHeld7.2.1, (World.cell?_of_block (a := ⟨b, off + k * 7 + 1, none⟩) (hrow8 b (by omega))).trans hHeld7.2.2⟩
    refine hK.out _ _ (Or.inr hHeld8) ?_
    clear hK K hHeld7
    try simp only [Act.put, List.getElem_toArray, List.getElem_cons_succ, List.getElem_cons_zero, List.setIfInBounds_toArray, List.set_cons_succ, List.set_cons_zero]
    have hrowo : u8.heap[bo]? = some (.cells #[v] 28 (0, 0)) := (hrow8 bo hbo).trans hO7.row
    have fz := frozen_of_row _ bo 0 _ _ hrowo
    have hoc := hHeld8.1
    obtain ⟨A8, c8, e8, _, _⟩ := hO8.strs
    rw [show (L ++ [X]).length = L.length + 1 by simp] at e8
    subst e8
    refine wpAnyL_one (i := 9) (by decide +kernel) (by rfl) (fun K hK => ?_)
    rw [if_pos (by rfl)]
    go_simp
    refine hK.out _ _ (Or.inl (by decide +kernel)) ?_
    clear hK K
    try simp only [Act.put, List.getElem_toArray, List.getElem_cons_succ, List.getElem_cons_zero, List.setIfInBounds_toArray, List.set_cons_succ, List.set_cons_zero]
    have hstep : OutStep bo n0 W (u8.setCell ⟨bo, 0, none⟩ (.slice A8 (L.length + 1) c8)) v (L ++ [X]) := by
      refine ⟨_, ⟨setCell_row1 hrowo _, OwnV.same hO8 (fun g hg => Below.heap_setCell _ _ _ _ (by show g ≠ bo; have := (OwnV.lt hO8 hg).1; omega))⟩, ?_, fun g hg => ?_⟩
      · refine ((hgr0.trans (Off.of_below (S := outS bo v) hx7) (fun _ h => Or.inl h)).trans (Off.of_grown (S := outS bo v) hg8 (fun g hg => outS_own hg)) (fun _ h => Or.inl h)).setCell (p := ⟨bo, 0, none⟩) (List.mem_cons_self ..) _
      · rcases hat8 with e | e
        · exact Or.inl (e.symm.trans hg)
        · rw [e] at hg
          cases hg
          have h9 := hgr0.size
          exact Or.inr (Nat.le_trans h9 hx7.size)
    have HS := hide hstep
    clear hstep fz hoc hrowo hHeld8 hO8 hg8 hat8 hO7 hOd hgr0 hrow8 hvb hx7
    refine wpAnyL_done (by decide +kernel) ?_ _
    refine NoPanic.normal ?_
    go_wp2
    go_end0
    exact ⟨rfl, by have h9 := HS.out; rw [← HX.out] at h9; exact h9⟩
end Go.Proofs.YtpldhempbdionaaGreatDoor
/- Below of package code. No conditions but those that each theorem states. -/
namespace Go.Proofs.YtpldhempbdionaaGreatDoor
open Go Go.RowKit Go.Sort Go.Maps
theorem iAlloc3 (w : World) (A B C : Obj) : (((w.alloc A).alloc B).alloc C).heap[w.heap.size]? = some A ∧ (((w.alloc A).alloc B).alloc C).heap[w.heap.size + 1]? = some B ∧ (((w.alloc A).alloc B).alloc C).heap[w.heap.size + 1 + 1]? = some C ∧ Below w.heap.size w (((w.alloc A).alloc B).alloc C) ∧ (((w.alloc A).alloc B).alloc C).heap.size = w.heap.size + 3 := by
  have s1 : (w.alloc A).heap.size = w.heap.size + 1 := by simp
  have s2 : ((w.alloc A).alloc B).heap.size = w.heap.size + 1 + 1 := by simp
  have x1 := Below.news (Below.refl w.heap.size w) A
  have x2 := Below.news (Below.refl (w.alloc A).heap.size (w.alloc A)) B
  have x3 := Below.news (Below.refl ((w.alloc A).alloc B).heap.size ((w.alloc A).alloc B)) C
  have r1 := heap_alloc_new w A
  have r2 := heap_alloc_new (w.alloc A) B
  have r3 := heap_alloc_new ((w.alloc A).alloc B) C
  rw [s1] at r2
  rw [s2] at r3
  exact ⟨iNext (iNext r1 x2) x3, iNext r2 x3, r3, bnext (bnext x1 x2) x3, by simp⟩
theorem visits_le (l : List Dg.It) (h : Dg.validC l = true) : (Dg.visits l).length = l.length := by
  obtain ⟨s, h1, _⟩ := Dg.valid_walk h
  exact Dg.walk_len (Nat.le_refl _) h1
/-- What Below hands back. -/
def belowC (l : List Dg.It) (id : ByteArray) : List ByteArray := if Dg.validC l = true then belowF l id (Dg.visits l) else []
theorem op_short {l : List Dg.It} {k : Nat} (hk : k < l.length) {vs : List (List ByteArray)} {o : List ByteArray} {s : Dg.Wk} (h : Dg.walkTo l (k + 1) = some (vs ++ [o], s)) : o.length ≤ k := by
  obtain ⟨vs0, s0, o', h1, h2, h3⟩ := Dg.walk_step hk h
  obtain ⟨_, e⟩ := List.append_inj' h3 rfl
  cases e
  obtain ⟨_, _, j, _, ho, _⟩ := Dg.stepI_some h2
  have := op_len (by omega) h1
  rw [ho, List.length_take]
  omega
set_option maxRecDepth 100000 in
set_option maxHeartbeats 4000000 in
theorem Code.below_of (l : List Dg.It) (A : Option Addr) (n c : Nat) (hl : l.length = n) (hw : ∀ x ∈ l, ItW x) (hn : n ≤ 1048576) (id : ByteArray) (w : World) (hI : Its w w.heap.size A l) (L : List ByteArray) (hL : belowC l id = L) :
    Calls Tryz.prog 12 #[.agg #[.slice A n c], .string id] w fun e w' => (∃ A' c', e = .returned (.slice A' L.length c') ∧ L.length ≤ c' ∧ Strs w' w'.heap.size A' L) ∧ Below w.heap.size w w' := by
  obtain ⟨r2, r3, ro, hb, hs⟩ := iAlloc3 w (.cells #[.slice A n c] 24) (.cells #[.string id] 9) (.cells #[.slice none 0 0] 28)
  have hmf : ∀ (fn : Fn) (first cap : Array Value) (w : World), (Instr.makeFunc fn first cap).run Tryz.prog w = .ok (.func fn first cap) w := fun _ _ _ _ => rfl
  have HI := hide hI; have HW := hide hw; have HL := hide hl; have HQ := hide hL
  clear hI hw hl hL
  go_enter Tryz.func12, Tryz.ntmps12
  go_wp2_with fail
  obtain ⟨R, hR⟩ : ∃ R, Dg.validC l = R := ⟨_, rfl⟩
  generalize ((w.alloc (.cells #[.slice A n c] 24)).alloc (.cells #[.string id] 9)).alloc (.cells #[.slice none 0 0] 28) = W1 at *
  refine (out_walk l A n c HL.out HW.out hn w.heap.size (w.heap.size + 1 + 1) W1 (HI.out.below hb) (by omega) (by omega) (fun W => W.heap[w.heap.size]? = some (.cells #[.slice A n c] 24 (0, 0)) ∧ W.heap[w.heap.size + 1]? = some (.cells #[.string id] 9 (0, 0)) ∧ Its W w.heap.size A l)
    (fun W W' h hg => ⟨(hg _ (by omega) (by omega)).trans h.1, (hg _ (by omega) (by omega)).trans h.2.1, h.2.2.same fun g hg' => hg g (by omega) (by omega)⟩) (belowF l id) (enters_of Tryz.func37 (by kernel_rfl) rfl)
    (fun k W v o A' c' vs s hk hlow hO hn0 hwt hvl hS hoc => by
      have h1 := below1_any l A n c HL.out id w.heap.size W1.heap.size (w.heap.size + 1 + 1) w.heap.size (w.heap.size + 1) (by omega) ⟨by omega, by omega⟩ (by omega) k hk W hlow.2.2 hlow.1 hlow.2.1 v _ hO (Nat.le_trans (belowF_len l id vs) (by rw [HL.out]; exact hn)) hn0 o A' o.length c' hS rfl (by have := op_short hk hwt; have := HL.out; omega)
      subst hvl
      rw [belowF_snoc l id vs o hk]
      exact h1)
    ⟨ro, OwnS.nil _ _⟩ ⟨r2, r3, HI.out.below hb⟩ R hR).mono ?_
  rintro e w2 ⟨rfl, v, L', hL', hO2, _, hb2, hsz2⟩
  have hb' : Below w.heap.size w w2 := hb.trans (hb2.mono (by omega))
  obtain ⟨A2, c2, rfl, hc2, hS2⟩ := hO2.own.strs
  have hcc := iCells0 hO2.row
  have hq := HQ.out
  unfold belowC at hq
  rw [hR] at hq
  have HLL := hide hL'
  clear hL' hb hb2 r2 r3 ro hO2 hR HQ
  cases R with
  | false =>
    rw [if_neg Bool.false_ne_true] at hq
    subst hq
    go_wp2
    go_ret
    exact ⟨⟨none, 0, rfl, Nat.le_refl _, Strs.nil _ _ _⟩, hb'⟩
  | true =>
    rw [if_pos rfl] at hq
    have e9 := HLL.out rfl
    rw [hq] at e9
    subst e9
    have HQ2 := hide hq
    clear hq
    go_wp2
    go_ret
    exact ⟨⟨A2, c2, rfl, hc2, hS2⟩, hb'⟩
end Go.Proofs.YtpldhempbdionaaGreatDoor
/- joined of package code. No conditions but those that each theorem states. -/
namespace Go.Proofs.YtpldhempbdionaaGreatDoor
open Go Go.RowKit Go.Sort Go.Maps
theorem L_app (a b : ByteArray) : Dg.L (a ++ b) = Dg.L a ++ Dg.L b := by
  unfold Dg.L
  rw [ByteArray.data_append, Array.toList_append]
theorem B_L (a : ByteArray) : Dg.B (Dg.L a) = a := by
  unfold Dg.B Dg.L
  rfl
theorem jB_snoc (l : List ByteArray) (k : Nat) (h : k < l.length) (hz : l[k].size ≤ 9223372036854775807) : Dg.jB (l.take (k + 1)) = Dg.jB (l.take k) ++ (decB l[k].size ++ ⟨#[58]⟩ ++ l[k]) := by
  unfold Dg.jB
  rw [Dg.joinedL_take l k h]
  conv => rhs; rw [← B_L (Dg.B _ ++ _)]
  rw [L_app, L_app, L_app, L_decB _ hz, Dg.L_B, Dg.len_L]
  congr 2
  rw [List.append_assoc]
  rfl
theorem jB_len (l : List ByteArray) (k : Nat) (hn : l.length ≤ 1048576) (hz : ∀ s ∈ l, s.size ≤ 1073741824) : (Dg.jB (l.take k)).size ≤ 1152921504606846976 := by
  unfold Dg.jB
  rw [Dg.size_B]
  have h1 := Dg.joinedL_len_le (l.take k) 1073741824 (fun s hs => hz s (List.mem_of_mem_take hs))
  have h2 : (l.take k).length ≤ 1048576 := by rw [List.length_take]; omega
  have h3 : (l.take k).length * (1073741824 + 21) ≤ 1048576 * (1073741824 + 21) := Nat.mul_le_mul_right _ h2
  omega
set_option maxHeartbeats 4000000 in
theorem Code.joined_of (A : Option Addr) (n c : Nat) (l : List ByteArray) (hl : l.length = n) (hn : n ≤ 1048576) (hz : ∀ s ∈ l, s.size ≤ 1073741824) (w : World) (he : Env w) (hS : Strs w w.heap.size A l) (J : ByteArray) (hJ : Dg.jB l = J) :
    Calls Tryz.prog 48 #[.slice A n c] w fun e w' => e = .returned (.string J) ∧ Below w.heap.size w w' := by
  have HL := hide hl; have HZ := hide hz; have HJ := hide hJ
  clear hl hz hJ
  go_enter Tryz.func48, Tryz.ntmps48
  go_wp2
  go_loopw [3, 8] (fun ov iv wr => ∃ k : Nat, k ≤ n ∧ iv = .int .i64 (k : Int) ∧ ov = .string (Dg.jB (l.take k)) ∧ Below w.heap.size w wr) (fun _ iv _ => n - (intOf iv).toNat)
  case atStart => exact ⟨0, by omega, rfl, rfl, Below.refl _ _⟩
  case round =>
    obtain ⟨k, hk, rfl, rfl, hb⟩ := hrel
    by_cases hlt : k < n
    · have hkl : k < l.length := by rw [HL.out]; exact hlt
      obtain ⟨b, off, rfl, hbl, hcell⟩ := (hS.below hb).get hkl
      have hxz := HZ.out l[k] (List.getElem_mem hkl)
      have hts := hide (jB_snoc l k hkl (by omega))
      have hpz := jB_len l k (by rw [HL.out]; exact hn) HZ.out
      generalize l[k] = x at *
      go_wp2_with fail
      refine (itoa_any _ x.size rfl (by omega) _ (he.next hb)).mono ?_
      rintro e w2 ⟨rfl, hb2⟩
      have hb3 := bnext hb hb2
      obtain ⟨P, hP⟩ : ∃ P, Dg.jB (l.take k) = P := ⟨_, rfl⟩
      rw [hP]
      rw [hP] at hts hpz
      have HP := hide hP
      clear hP hcell
      obtain ⟨D, hD⟩ : ∃ D, decB x.size = D := ⟨_, rfl⟩
      have hdz : D.size ≤ 20 := by rw [← hD]; exact decB_size _ (by omega)
      rw [hD] at hts
      rw [hD]
      have HD := hide hD
      clear hD
      go_wp2
      go_roundw
      case rel => exact ⟨k + 1, by omega, by go_num, by rw [hts.out], hb3⟩
      case measure => simp [intOf]; omega
    · obtain rfl : k = n := by omega
      have hJ2 : Dg.jB (l.take k) = J := by rw [← HL.out, List.take_length]; exact HJ.out
      rw [hJ2]
      clear hJ2
      go_wp2
      go_ret
      exact ⟨rfl, hb⟩
end Go.Proofs.YtpldhempbdionaaGreatDoor
/- Digest of package code. No conditions but those that each theorem states. -/
namespace Go.Proofs.YtpldhempbdionaaGreatDoor
open Go Go.RowKit Go.Sort Go.Maps
/-- Behind an append to the list and before it is stored. -/
theorem out_row {bo n0 : Nat} {W u7 u8 : World} {v : Value} {L : List ByteArray} (hO : OutAt bo n0 W v L) (hbo : bo < n0) (hn0 : n0 ≤ W.heap.size) (hx : Below W.heap.size W u7) (hg : u7.grownBy u8 v.ownBlock) : u8.heap[bo]? = some (.cells #[v] 28 (0, 0)) ∧ ∀ g, g < n0 → u8.heap[g]? = W.heap[g]? := by
  have key : ∀ g, g < n0 → u8.heap[g]? = W.heap[g]? := fun g h => (hg.block g (Nat.lt_of_lt_of_le h (Nat.le_trans hn0 hx.size)) (fun e => by have := (OwnV.lt hO.own e.symm).1; omega)).trans (hx.block g (by omega))
  exact ⟨(key bo hbo).trans hO.row, key⟩
theorem out_done {bo n0 : Nat} {W u7 u8 : World} {v v8 : Value} {L X : List ByteArray} (hO : OutAt bo n0 W v L) (hbo : bo < n0) (hn0 : n0 ≤ W.heap.size) (hx : Below W.heap.size W u7) (hg : u7.grownBy u8 v.ownBlock) (hO8 : OwnS u8 n0 v8 (L ++ X)) (hat : v8.ownBlock = v.ownBlock ∨ v8.ownBlock = some u7.heap.size) : OutStep bo n0 W (u8.setCell ⟨bo, 0, none⟩ v8) v (L ++ X) := by
  refine ⟨v8, ⟨setCell_row1 (out_row hO hbo hn0 hx hg).1 v8, OwnV.same hO8 (fun g hg => Below.heap_setCell _ _ _ _ (by show g ≠ bo; have := (OwnV.lt hO8 hg).1; omega))⟩, ?_, fun g hg' => ?_⟩
  · exact ((Off.of_below (S := outS bo v) hx).trans (Off.of_grown (S := outS bo v) hg (fun g hg => outS_own hg)) (fun _ h => Or.inl h)).setCell (p := ⟨bo, 0, none⟩) (List.mem_cons_self ..) _
  · rcases hat with e | e
    · exact Or.inl (e.symm.trans hg')
    · rw [e] at hg'
      cases hg'
      exact Or.inr hx.size
theorem Its.cells {w : World} {B b off : Nat} {l : List Dg.It} (h : Its w B (some ⟨b, off, none⟩) l) {k : Nat} (hk : k < l.length) (x : Dg.It) (hx : l[k] = x) : b < B ∧ w.cell? ⟨b, off + k * 7, none⟩ = some (.int .i64 x.kind) ∧ w.cell? ⟨b, off + k * 7 + 1, none⟩ = some (.string x.id) ∧ w.cell? ⟨b, off + k * 7 + 2, none⟩ = some (.string x.parent) ∧ w.cell? ⟨b, off + k * 7 + 3, none⟩ = some (.string x.number) ∧
    w.cell? ⟨b, off + k * 7 + 4, none⟩ = some (.string x.north) ∧ w.cell? ⟨b, off + k * 7 + 5, none⟩ = some (.string x.south) ∧ w.cell? ⟨b, off + k * 7 + 6, none⟩ = some (.bool x.gone) := by
  obtain ⟨b', off', e, hb, hc⟩ := h.get hk
  cases e
  rw [hx] at hc
  exact ⟨hb, hc 0 _ rfl, hc 1 _ rfl, hc 2 _ rfl, hc 3 _ rfl, hc 4 _ rfl, hc 5 _ rfl, hc 6 _ rfl⟩
theorem Its.some {w : World} {B : Nat} {A : Option Addr} {l : List Dg.It} (h : Its w B A l) {k : Nat} (hk : k < l.length) : ∃ b off, A = some ⟨b, off, none⟩ := by
  obtain ⟨b, off, e, _⟩ := h.get hk
  exact ⟨b, off, e⟩
set_option maxRecDepth 100000 in
set_option maxHeartbeats 8000000 in
theorem digest1_any (l : List Dg.It) (AI : Option Addr) (n c : Nat) (hl : l.length = n) (B0 n0 bo b2 : Nat) (hbo : bo < n0) (h2 : b2 < n0 ∧ b2 ≠ bo) (hB2 : B0 ≤ bo) (k : Nat) (hk : k < l.length) (W : World) (hI : Its W B0 AI l)
    (r2 : W.heap[b2]? = some (.cells #[.slice AI n c] 24 (0, 0))) (v : Value) (L : List ByteArray) (hO : OutAt bo n0 W v L) (hLl : L.length ≤ 1099511627000) (hn0 : n0 ≤ W.heap.size) (A : Option Addr) (m co : Nat) :
    Calls Tryz.prog 40 #[.int .i64 (k : Int), .slice A m co, .pointer (some ⟨b2, 0, none⟩), .pointer (some ⟨bo, 0, none⟩)] W fun e W' => e = .returned (.tuple #[]) ∧ OutStep bo n0 W W' v (L ++ Dg.fieldsI l[k]) := by
  have hB0 : B0 ≤ W.heap.size := by omega
  obtain ⟨b, off, rfl⟩ := hI.some hk
  obtain ⟨x, hx⟩ : ∃ x, l[k] = x := ⟨_, rfl⟩
  obtain ⟨hbl, p0, p1, p2, p3, p4, p5, p6⟩ := hI.cells hk x hx
  have HX := hide hx
  clear hx
  have hidx : (k : Int) < (n : Int) := by omega
  have hk0 : (0 : Int) ≤ (k : Int) := by omega
  have hc2 := iCells0 r2
  have hx1 := Below.news (Below.refl W.heap.size W) (.cells #[.int .i64 x.kind, .string x.id, .string x.parent, .string x.number, .string x.north, .string x.south, .bool x.gone] 31)
  have hrow := heap_alloc_new W (.cells #[.int .i64 x.kind, .string x.id, .string x.parent, .string x.number, .string x.north, .string x.south, .bool x.gone] 31)
  go_enter Tryz.func40, Tryz.ntmps40
  go_upto_region 2 with (fail)
  have hO1 := hO.same (fun g hg => hx1.block g (by
    rcases mem_outS hg with rfl | e
    · exact lt_of_block hO.row
    · exact (OwnV.lt hO.own e).2))
  have hn1 : n0 ≤ (W.alloc (.cells #[.int .i64 x.kind, .string x.id, .string x.parent, .string x.number, .string x.north, .string x.south, .bool x.gone] 31)).heap.size := Nat.le_trans hn0 hx1.size
  generalize W.alloc (.cells #[.int .i64 x.kind, .string x.id, .string x.parent, .string x.number, .string x.north, .string x.south, .bool x.gone] 31) = w1 at *
  clear p0 p1 p2 p3 p4 p5 p6 hc2 r2 hI
  obtain ⟨c0, c1, c2, c3, c4, c5, c6⟩ := iCells hrow
  have hco := iCells0 hO1.row
  have hx0 := hide hx1
  clear hrow hx1
  have HK : Hid (Dg.fieldsI x = [Dg.kindW x, x.id, x.parent, x.number, x.north, x.south]) := rfl
  by_cases kz : x.kind = 1
  · skip
    have LITX := hide (Below.news (Below.refl w1.heap.size w1) (.cells #[.string Dg.sD, .string x.id, .string x.parent, .string x.number, .string x.north, .string x.south] 9))
    have Strs6 : Hid (∀ (j : Nat) s, [Dg.sD, x.id, x.parent, x.number, x.north, x.south][j]? = some s → (w1.alloc (.cells #[.string Dg.sD, .string x.id, .string x.parent, .string x.number, .string x.north, .string x.south] 9)).cell? ((⟨w1.heap.size, 0, none⟩ : Addr).add j) = some (.string s)) := fun j s hj => by
      rw [addr_off, cell_of_row _ _ _ _ _ (0, 0) (heap_alloc_new w1 _), Nat.zero_add, ← Array.getElem?_toList]
      have h9 : ([Dg.sD, x.id, x.parent, x.number, x.north, x.south].map Value.string)[j]? = some (.string s) := by rw [List.getElem?_map, hj]; rfl
      exact h9
    have kw : Dg.kindW x = Dg.sD := by unfold Dg.kindW; rw [if_pos kz]
    have HK2 := HK.out
    rw [kw] at HK2
    clear kw
    have kb : (x.kind == 1) = true := beq_iff_eq.2 kz
    clear kz
    have HK3 := hide HK2
    clear HK2 HK
    go_wp2_with (at_builtin; refine step_ag rfl (.tmp 20) (.tmp 32) rfl n0 v L [Dg.sD, x.id, x.parent, x.number, x.north, x.south] rfl (OwnS.below hO1.own LITX.out) ⟨w1.heap.size, 0, none⟩ 6 6 rfl rfl (Strs6.out) (by omega) (by simp; omega) ?_; intro v8 u8 hO8 hg8 hat8; obtain ⟨A8, c8, e8, _, _⟩ := hO8.strs; rw [show (L ++ [Dg.sD, x.id, x.parent, x.number, x.north, x.south]).length = L.length + 6 by simp] at e8; subst e8; have hrow8 := (out_row hO hbo hn0 (bnext hx0.out LITX.out) hg8).1; have hoc := iCells0 hrow8; have fz := frozen_of_row _ bo 0 _ _ hrow8)
    go_end0
    exact ⟨rfl, by have h9 := out_done hO hbo hn0 (bnext hx0.out LITX.out) hg8 hO8 hat8; rw [HX.out, HK3.out]; exact h9⟩
  · by_cases gz : x.gone = true
    · skip
      have LITX := hide (Below.news (Below.refl w1.heap.size w1) (.cells #[.string Dg.sG, .string x.id, .string x.parent, .string x.number, .string x.north, .string x.south] 9))
      have Strs6 : Hid (∀ (j : Nat) s, [Dg.sG, x.id, x.parent, x.number, x.north, x.south][j]? = some s → (w1.alloc (.cells #[.string Dg.sG, .string x.id, .string x.parent, .string x.number, .string x.north, .string x.south] 9)).cell? ((⟨w1.heap.size, 0, none⟩ : Addr).add j) = some (.string s)) := fun j s hj => by
        rw [addr_off, cell_of_row _ _ _ _ _ (0, 0) (heap_alloc_new w1 _), Nat.zero_add, ← Array.getElem?_toList]
        have h9 : ([Dg.sG, x.id, x.parent, x.number, x.north, x.south].map Value.string)[j]? = some (.string s) := by rw [List.getElem?_map, hj]; rfl
        exact h9
      have kw : Dg.kindW x = Dg.sG := by unfold Dg.kindW; rw [if_neg kz, if_pos gz]
      have HK2 := HK.out
      rw [kw] at HK2
      clear kw
      have kb : (x.kind == 1) = false := beq_eq_false_iff_ne.2 kz
      rw [gz] at c6
      clear kz gz
      have HK3 := hide HK2
      clear HK2 HK
      go_wp2_with (at_builtin; refine step_ag rfl (.tmp 20) (.tmp 32) rfl n0 v L [Dg.sG, x.id, x.parent, x.number, x.north, x.south] rfl (OwnS.below hO1.own LITX.out) ⟨w1.heap.size, 0, none⟩ 6 6 rfl rfl (Strs6.out) (by omega) (by simp; omega) ?_; intro v8 u8 hO8 hg8 hat8; obtain ⟨A8, c8, e8, _, _⟩ := hO8.strs; rw [show (L ++ [Dg.sG, x.id, x.parent, x.number, x.north, x.south]).length = L.length + 6 by simp] at e8; subst e8; have hrow8 := (out_row hO hbo hn0 (bnext hx0.out LITX.out) hg8).1; have hoc := iCells0 hrow8; have fz := frozen_of_row _ bo 0 _ _ hrow8)
      go_end0
      exact ⟨rfl, by have h9 := out_done hO hbo hn0 (bnext hx0.out LITX.out) hg8 hO8 hat8; rw [HX.out, HK3.out]; exact h9⟩
    · have gz2 : x.gone = false := by simpa using gz
      have LITX := hide (Below.news (Below.refl w1.heap.size w1) (.cells #[.string Dg.sA, .string x.id, .string x.parent, .string x.number, .string x.north, .string x.south] 9))
      have Strs6 : Hid (∀ (j : Nat) s, [Dg.sA, x.id, x.parent, x.number, x.north, x.south][j]? = some s → (w1.alloc (.cells #[.string Dg.sA, .string x.id, .string x.parent, .string x.number, .string x.north, .string x.south] 9)).cell? ((⟨w1.heap.size, 0, none⟩ : Addr).add j) = some (.string s)) := fun j s hj => by
        rw [addr_off, cell_of_row _ _ _ _ _ (0, 0) (heap_alloc_new w1 _), Nat.zero_add, ← Array.getElem?_toList]
        have h9 : ([Dg.sA, x.id, x.parent, x.number, x.north, x.south].map Value.string)[j]? = some (.string s) := by rw [List.getElem?_map, hj]; rfl
        exact h9
      have kw : Dg.kindW x = Dg.sA := by unfold Dg.kindW; rw [if_neg kz, if_neg gz]
      have HK2 := HK.out
      rw [kw] at HK2
      clear kw
      have kb : (x.kind == 1) = false := beq_eq_false_iff_ne.2 kz
      rw [gz2] at c6
      clear kz gz gz2
      have HK3 := hide HK2
      clear HK2 HK
      go_wp2_with (at_builtin; refine step_ag rfl (.tmp 20) (.tmp 32) rfl n0 v L [Dg.sA, x.id, x.parent, x.number, x.north, x.south] rfl (OwnS.below hO1.own LITX.out) ⟨w1.heap.size, 0, none⟩ 6 6 rfl rfl (Strs6.out) (by omega) (by simp; omega) ?_; intro v8 u8 hO8 hg8 hat8; obtain ⟨A8, c8, e8, _, _⟩ := hO8.strs; rw [show (L ++ [Dg.sA, x.id, x.parent, x.number, x.north, x.south]).length = L.length + 6 by simp] at e8; subst e8; have hrow8 := (out_row hO hbo hn0 (bnext hx0.out LITX.out) hg8).1; have hoc := iCells0 hrow8; have fz := frozen_of_row _ bo 0 _ _ hrow8)
      go_end0
      exact ⟨rfl, by have h9 := out_done hO hbo hn0 (bnext hx0.out LITX.out) hg8 hO8 hat8; rw [HX.out, HK3.out]; exact h9⟩
end Go.Proofs.YtpldhempbdionaaGreatDoor
/- Digest of package code, the whole. No conditions but those that each theorem states. -/
namespace Go.Proofs.YtpldhempbdionaaGreatDoor
open Go Go.RowKit Go.Sort Go.Maps
theorem iAlloc2 (w : World) (A B : Obj) : ((w.alloc A).alloc B).heap[w.heap.size]? = some A ∧ ((w.alloc A).alloc B).heap[w.heap.size + 1]? = some B ∧ Below w.heap.size w ((w.alloc A).alloc B) ∧ ((w.alloc A).alloc B).heap.size = w.heap.size + 2 := by
  have s1 : (w.alloc A).heap.size = w.heap.size + 1 := by simp
  have x1 := Below.news (Below.refl w.heap.size w) A
  have x2 := Below.news (Below.refl (w.alloc A).heap.size (w.alloc A)) B
  have r1 := heap_alloc_new w A
  have r2 := heap_alloc_new (w.alloc A) B
  rw [s1] at r2
  exact ⟨iNext r1 x2, r2, bnext x1 x2, by simp⟩
theorem fieldsC_snoc (l : List Dg.It) (k : Nat) (hk : k < l.length) : Dg.fieldsC (l.take (k + 1)) = Dg.fieldsC (l.take k) ++ Dg.fieldsI l[k] := by
  unfold Dg.fieldsC
  rw [List.take_succ_eq_append_getElem hk, List.flatMap_append]
  simp
theorem fieldsC_len (l : List Dg.It) : (Dg.fieldsC l).length = 6 * l.length := by
  unfold Dg.fieldsC
  induction l with
  | nil => rfl
  | cons x l ih => rw [List.flatMap_cons, List.length_append, ih, List.length_cons]; show 6 + _ = _; omega
set_option maxRecDepth 100000 in
set_option maxHeartbeats 4000000 in
theorem Code.digest_of (l : List Dg.It) (A : Option Addr) (n c : Nat) (hl : l.length = n) (hw : ∀ x ∈ l, ItW x) (hn : n ≤ 10000) (w : World) (he : Env w) (hI : Its w w.heap.size A l) (hz : ∀ x ∈ l, ∀ s ∈ Dg.fieldsI x, s.size ≤ 10000) (D : ByteArray) (hD : Dg.digestC l = D) :
    Calls Tryz.prog 14 #[.agg #[.slice A n c]] w fun e w' => e = .returned (.string D) ∧ Below w.heap.size w w' := by
  obtain ⟨r2, ro, hb, hs⟩ := iAlloc2 w (.cells #[.slice A n c] 24) (.cells #[.slice none 0 0] 28)
  have hmf : ∀ (fn : Fn) (first cap : Array Value) (w : World), (Instr.makeFunc fn first cap).run Tryz.prog w = .ok (.func fn first cap) w := fun _ _ _ _ => rfl
  have HI := hide hI; have HW := hide hw; have HL := hide hl; have HQ := hide hD; have HZ := hide hz
  clear hI hw hl hD hz
  go_enter Tryz.func14, Tryz.ntmps14
  go_wp2_with fail
  obtain ⟨R, hR⟩ : ∃ R, Dg.validC l = R := ⟨_, rfl⟩
  generalize (w.alloc (.cells #[.slice A n c] 24)).alloc (.cells #[.slice none 0 0] 28) = W1 at *
  refine (out_walk l A n c HL.out HW.out (by omega) w.heap.size (w.heap.size + 1) W1 (HI.out.below hb) (by omega) (by omega) (fun W => W.heap[w.heap.size]? = some (.cells #[.slice A n c] 24 (0, 0)) ∧ Its W w.heap.size A l)
    (fun W W' h hg => ⟨(hg _ (by omega) (by omega)).trans h.1, h.2.same fun g hg' => hg g (by omega) (by omega)⟩) (fun vs => Dg.fieldsC (l.take vs.length)) (enters_of Tryz.func40 (by kernel_rfl) rfl)
    (fun k W v o A' c' vs s hk hlow hO hn0 hwt hvl hS hoc => by
      subst hvl
      have h1 := digest1_any l A n c HL.out w.heap.size W1.heap.size (w.heap.size + 1) w.heap.size (by omega) ⟨by omega, by omega⟩ (by omega) vs.length hk W hlow.2 hlow.1 v _ hO (by rw [fieldsC_len, List.length_take]; have := HL.out; omega) hn0 A' o.length c'
      rw [← fieldsC_snoc l vs.length hk] at h1
      rw [List.length_append, List.length_singleton]
      exact h1)
    ⟨ro, OwnS.nil _ _⟩ ⟨r2, HI.out.below hb⟩ R hR).mono ?_
  rintro e w2 ⟨rfl, v, L', hL', hO2, _, hb2, hsz2⟩
  have hb' : Below w.heap.size w w2 := hb.trans (hb2.mono (by omega))
  obtain ⟨A2, c2, rfl, hc2, hS2⟩ := hO2.own.strs
  have hcc := iCells0 hO2.row
  have hq := HQ.out
  unfold Dg.digestC at hq
  rw [hR] at hq
  have HLL := hide hL'
  have hv := hide hR
  clear hL' hb hb2 r2 ro hO2 hR HQ
  cases R with
  | false =>
    rw [if_neg Bool.false_ne_true] at hq
    subst hq
    go_wp2
    go_ret
    exact ⟨rfl, hb'⟩
  | true =>
    rw [if_pos rfl] at hq
    have e9 := HLL.out rfl
    rw [visits_le l hv.out, List.take_length] at e9
    have HQ2 := hide hq
    clear hq
    have HE9 := hide e9
    clear e9
    go_wp2_with fail
    have hzz : ∀ s ∈ L', s.size ≤ 10000 := fun s hs => by
      rw [HE9.out] at hs
      unfold Dg.fieldsC at hs
      obtain ⟨x, hx, hs'⟩ := List.mem_flatMap.1 hs
      exact HZ.out x hx s hs'
    have hll : L'.length ≤ 60000 := by rw [HE9.out, fieldsC_len, HL.out]; omega
    have hjl := Dg.joinedL_len_le L' 10000 hzz
    have hjm : L'.length * (10000 + 21) ≤ 60000 * (10000 + 21) := Nat.mul_le_mul_right _ hll
    refine (list_of A2 0 c2 L'.length L' rfl D (by rw [HE9.out]; exact HQ2.out) w2 (he.next hb') (by omega) (by omega) (fun s hs => Nat.le_trans (hzz s hs) (by decide)) hS2).mono ?_
    rintro e w3 ⟨rfl, hb3⟩
    have hb4 := bnext hb' hb3
    clear hjl hjm hzz hcc hS2
    go_wp2
    go_ret
    exact ⟨rfl, hb4⟩
end Go.Proofs.YtpldhempbdionaaGreatDoor
/- Under of package code. No conditions but those that each theorem states. -/
namespace Go.Proofs.YtpldhempbdionaaGreatDoor
open Go Go.RowKit Go.Sort Go.Maps
/-- The walk, when its visits write one variable. -/
theorem flag_walk {F : Nat} {lb : Array Value} (l : List Dg.It) (A : Option Addr) (n c : Nat) (hl : l.length = n) (hw : ∀ x ∈ l, ItW x) (hn : n ≤ 1048576) (B0 bo : Nat) (w : World) (hI : Its w B0 A l) (hB : B0 ≤ bo) (hbo : bo < w.heap.size) (Low : World → Prop) (hLow : ∀ W W', Low W → (∀ g, g < w.heap.size → g ≠ bo → W'.heap[g]? = W.heap[g]?) → Low W') (f : List (List ByteArray) → Bool)
    (en : ∀ args w, (callFunc F args).run Tryz.prog w = .ok (.enter F args) w)
    (hc : ∀ (k : Nat) (W : World) (o : List ByteArray) (A : Option Addr) (c : Nat) (vs : List (List ByteArray)) (s : Dg.Wk), k < l.length → Low W → W.heap[bo]? = some (.cells #[.bool (f vs)] 4 (0, 0)) → w.heap.size ≤ W.heap.size → Dg.walkTo l (k + 1) = some (vs ++ [o], s) → vs.length = k → Strs W W.heap.size A o → o.length ≤ c →
      Calls Tryz.prog F (#[.int .i64 (k : Int), .slice A o.length c] ++ lb) W fun e W' => e = .returned (.tuple #[]) ∧ W'.heap[bo]? = some (.cells #[.bool (f (vs ++ [o]))] 4 (0, 0)) ∧ Off [bo] W W')
    (h0 : w.heap[bo]? = some (.cells #[.bool (f [])] 4 (0, 0))) (hl0 : Low w) (R : Bool) (hR : Dg.validC l = R) :
    Calls Tryz.prog 35 #[.agg #[.slice A n c], .func (.func F) #[] lb] w fun e w' => e = .returned (.bool R) ∧ ∃ b, (R = true → b = f (Dg.visits l)) ∧ w'.heap[bo]? = some (.cells #[.bool b] 4 (0, 0)) ∧ Low w' ∧ Below bo w w' := by
  have hv : Visit l F lb B0 w.heap.size (fun k S W => S = [bo] ∧ ∃ vs s, W.heap[bo]? = some (.cells #[.bool (f vs)] 4 (0, 0)) ∧ Dg.walkTo l k = some (vs, s) ∧ Low W) := {
    enters := en
    stable := fun k S W W' h hS hb => by
      obtain ⟨rfl, vs, s, h1, h2, h3⟩ := h
      exact ⟨rfl, vs, s, (hS bo (List.mem_singleton.2 rfl)).trans h1, h2, hLow W W' h3 fun g hg _ => hb.block g hg⟩
    lt := fun k S W h g hg => by
      obtain ⟨rfl, vs, s, h1, h2, h3⟩ := h
      rw [List.mem_singleton.1 hg]
      exact ⟨hB, lt_of_block h1⟩
    call := fun k S W o A c vs s hk h hw hvl hS hoc hn => by
      obtain ⟨rfl, vs0, s0, h1, h2, h3⟩ := h
      obtain ⟨vs1, s1, o1, e1, _, e2⟩ := Dg.walk_step hk hw
      rw [h2] at e1
      cases e1
      obtain ⟨rfl, e3⟩ := List.append_inj' e2 rfl
      refine (hc k W o A c vs s hk h3 h1 hn hw hvl hS hoc).mono ?_
      rintro e W' ⟨rfl, h4, h5⟩
      exact ⟨rfl, [bo], ⟨rfl, vs ++ [o], s, h4, hw, hLow W W' h3 fun g hg hgb => h5.block g (by omega) fun hm => hgb (List.mem_singleton.1 hm)⟩, h5, fun g hg => Or.inl hg⟩ }
  refine (walk_any l A n c hl hw hn B0 w hI (by omega) F lb _ hv [bo] ⟨rfl, [], ⟨[], []⟩, h0, rfl, hl0⟩ R hR).mono ?_
  rintro e w' ⟨rfl, k, S, hk, ⟨rfl, vs, s, h1, h2, h3⟩, ho, _⟩
  refine ⟨rfl, f vs, fun hr => ?_, h1, h3, ho.below (by omega) (fun g hg => by rw [List.mem_singleton.1 hg]; exact Nat.le_refl _)⟩
  have := hk hr
  subst this
  rw [hr] at hR
  obtain ⟨s', h4, _⟩ := Dg.valid_walk hR
  rw [hl] at h4
  rw [h2] at h4
  cases h4
  rfl
/-- Whether an item with an Id stood under a division, when it was visited last. -/
def underF (l : List Dg.It) (id dv : ByteArray) (vs : List (List ByteArray)) : Bool := (vs.zip l).foldl (fun b p => if p.2.id = id then (decide (dv = Dg.nil8) || Dg.inB p.1 dv) else b) false
theorem underF_snoc (l : List Dg.It) (id dv : ByteArray) (vs : List (List ByteArray)) (o : List ByteArray) (hk : vs.length < l.length) : underF l id dv (vs ++ [o]) = if l[vs.length].id = id then (decide (dv = Dg.nil8) || Dg.inB o dv) else underF l id dv vs := by
  unfold underF
  rw [zip_snoc vs l o hk, List.foldl_append]
  rfl
/-- What Under says. -/
def underC (l : List Dg.It) (id dv : ByteArray) : Bool := Dg.validC l && underF l id dv (Dg.visits l)
theorem tl_yes {a b : ByteArray} (h : a = b) : (a.toList == b.toList) = true := (Lib.bytes_beq_iff a b).2 h
theorem tl_no {a b : ByteArray} (h : a ≠ b) : (a.toList == b.toList) = false := (Lib.bytes_beq_false_iff a b).2 h
set_option maxRecDepth 100000 in
set_option maxHeartbeats 4000000 in
theorem under1_any (l : List Dg.It) (AI : Option Addr) (n c : Nat) (hl : l.length = n) (id dv : ByteArray) (B0 bo b2 b3 b4 : Nat) (k : Nat) (hk : k < l.length) (W : World) (hI : Its W B0 AI l)
    (r2 : W.heap[b2]? = some (.cells #[.slice AI n c] 24 (0, 0))) (r3 : W.heap[b3]? = some (.cells #[.string id] 9 (0, 0))) (r4 : W.heap[b4]? = some (.cells #[.string dv] 9 (0, 0))) (fb : Bool) (ro : W.heap[bo]? = some (.cells #[.bool fb] 4 (0, 0)))
    (o : List ByteArray) (A : Option Addr) (m co : Nat) (hS : Strs W W.heap.size A o) (hm : o.length = m) (hom : m ≤ 1048576) :
    Calls Tryz.prog 39 #[.int .i64 (k : Int), .slice A m co, .pointer (some ⟨b2, 0, none⟩), .pointer (some ⟨b3, 0, none⟩), .pointer (some ⟨b4, 0, none⟩), .pointer (some ⟨bo, 0, none⟩)] W fun e W' => e = .returned (.tuple #[]) ∧ W'.heap[bo]? = some (.cells #[.bool (if l[k].id = id then (decide (dv = Dg.nil8) || Dg.inB o dv) else fb)] 4 (0, 0)) ∧ Off [bo] W W' := by
  obtain ⟨b, off, rfl⟩ := hI.some hk
  obtain ⟨x, hx⟩ : ∃ x, l[k] = x := ⟨_, rfl⟩
  obtain ⟨hbl, p0, p1, p2, p3, p4, p5, p6⟩ := hI.cells hk x hx
  obtain ⟨r, hr⟩ : ∃ r, (if l[k].id = id then (decide (dv = Dg.nil8) || Dg.inB o dv) else fb) = r := ⟨_, rfl⟩
  rw [hr]
  rw [hx] at hr
  have HR := hide hr
  clear hx hr p0 p2 p3 p4 p5 p6
  have hidx : (k : Int) < (n : Int) := by omega
  have hk0 : (0 : Int) ≤ (k : Int) := by omega
  have c2 := iCells0 r2
  have c3 := iCells0 r3
  have c4 := iCells0 r4
  have c5 := iCells0 ro
  have fz := frozen_of_row _ bo 0 _ _ ro
  have HM := hide hm
  clear hm
  have hpe : dv.toList.isEmpty = decide (dv = Dg.nil8) := (emp_iff _).symm
  go_enter Tryz.func39, Tryz.ntmps39
  go_upto_region 0 with (fail)
  by_cases hid : x.id = id
  · have e1 : (x.id.toList == id.toList) = true := tl_yes hid
    have HID := hide hid
    clear hid
    go_quiet (fail)
    by_cases hd : dv = Dg.nil8
    · have e2 : dv.toList.isEmpty = true := hpe.trans (decide_eq_true hd)
      have HD := hide hd
      clear hd hpe
      go_wp2
      go_end0
      have hrr : true = r := by rw [← HR.out, if_pos HID.out, decide_eq_true HD.out, Bool.true_or]
      subst hrr
      exact ⟨rfl, setCell_row1 (w := W.drewN nq) ro _, (Off.of_below (S := [bo]) (below_drewN (Below.refl W.heap.size W) nq)).setCell (p := ⟨bo, 0, none⟩) (List.mem_singleton.2 rfl) _⟩
    · have e2 : dv.toList.isEmpty = false := hpe.trans (decide_eq_false hd)
      have HD := hide hd
      clear hd hpe
      obtain ⟨ib, hib⟩ : ∃ b, Dg.inB o dv = b := ⟨_, rfl⟩
      have HIB := hide hib
      clear hib
      go_wp2_with fail
      refine (scontains_s A m co o dv _ HM.out (by omega) (keepS hS (below_drewN (Below.refl W.heap.size W) nq)) ib HIB.out).mono ?_
      rintro e w4 ⟨rfl, hw4⟩
      rw [hw4]
      clear hw4
      go_wp2
      go_end0
      have hrr : ib = r := by rw [← HR.out, if_pos HID.out, decide_eq_false HD.out, Bool.false_or, HIB.out]
      subst hrr
      exact ⟨rfl, setCell_row1 (w := W.drewN nq) ro _, (Off.of_below (S := [bo]) (below_drewN (Below.refl W.heap.size W) nq)).setCell (p := ⟨bo, 0, none⟩) (List.mem_singleton.2 rfl) _⟩
  · have e1 : (x.id.toList == id.toList) = false := tl_no hid
    have HID := hide hid
    clear hid
    go_quiet (fail)
    go_wp2
    go_end0
    have hrr : fb = r := by rw [← HR.out, if_neg HID.out]
    subst hrr
    exact ⟨rfl, ro, Off.of_below (below_drewN (Below.refl W.heap.size W) nq)⟩
end Go.Proofs.YtpldhempbdionaaGreatDoor
/- Under and Find of package code. No conditions but those that each theorem states. -/
namespace Go.Proofs.YtpldhempbdionaaGreatDoor
open Go Go.RowKit Go.Sort Go.Maps
theorem iAlloc4 (w : World) (A B C D : Obj) : ((((w.alloc A).alloc B).alloc C).alloc D).heap[w.heap.size]? = some A ∧ ((((w.alloc A).alloc B).alloc C).alloc D).heap[w.heap.size + 1]? = some B ∧ ((((w.alloc A).alloc B).alloc C).alloc D).heap[w.heap.size + 1 + 1]? = some C ∧ ((((w.alloc A).alloc B).alloc C).alloc D).heap[w.heap.size + 1 + 1 + 1]? = some D ∧ Below w.heap.size w ((((w.alloc A).alloc B).alloc C).alloc D) ∧ ((((w.alloc A).alloc B).alloc C).alloc D).heap.size = w.heap.size + 4 := by
  obtain ⟨r1, r2, r3, hb, hs⟩ := iAlloc3 w A B C
  have x4 := Below.news (Below.refl (((w.alloc A).alloc B).alloc C).heap.size (((w.alloc A).alloc B).alloc C)) D
  have r4 := heap_alloc_new (((w.alloc A).alloc B).alloc C) D
  rw [hs] at r4
  exact ⟨iNext r1 x4, iNext r2 x4, iNext r3 x4, r4, bnext hb x4, by simp⟩
set_option maxRecDepth 100000 in
set_option maxHeartbeats 4000000 in
theorem Code.under_of (l : List Dg.It) (A : Option Addr) (n c : Nat) (hl : l.length = n) (hw : ∀ x ∈ l, ItW x) (hn : n ≤ 1048576) (id dv : ByteArray) (w : World) (hI : Its w w.heap.size A l) (U : Bool) (hU : underC l id dv = U) :
    Calls Tryz.prog 13 #[.agg #[.slice A n c], .string id, .string dv] w fun e w' => e = .returned (.bool U) ∧ Below w.heap.size w w' := by
  obtain ⟨r2, r3, r4, ro, hb, hs⟩ := iAlloc4 w (.cells #[.slice A n c] 24) (.cells #[.string id] 9) (.cells #[.string dv] 9) (.cells #[.bool false] 4)
  have hmf : ∀ (fn : Fn) (first cap : Array Value) (w : World), (Instr.makeFunc fn first cap).run Tryz.prog w = .ok (.func fn first cap) w := fun _ _ _ _ => rfl
  have HI := hide hI; have HW := hide hw; have HL := hide hl; have HQ := hide hU
  clear hI hw hl hU
  go_enter Tryz.func13, Tryz.ntmps13
  go_wp2_with fail
  obtain ⟨R, hR⟩ : ∃ R, Dg.validC l = R := ⟨_, rfl⟩
  generalize (((w.alloc (.cells #[.slice A n c] 24)).alloc (.cells #[.string id] 9)).alloc (.cells #[.string dv] 9)).alloc (.cells #[.bool false] 4) = W1 at *
  refine (flag_walk l A n c HL.out HW.out hn w.heap.size (w.heap.size + 1 + 1 + 1) W1 (HI.out.below hb) (by omega) (by omega) (fun W => W.heap[w.heap.size]? = some (.cells #[.slice A n c] 24 (0, 0)) ∧ W.heap[w.heap.size + 1]? = some (.cells #[.string id] 9 (0, 0)) ∧ W.heap[w.heap.size + 1 + 1]? = some (.cells #[.string dv] 9 (0, 0)) ∧ Its W w.heap.size A l)
    (fun W W' h hg => ⟨(hg _ (by omega) (by omega)).trans h.1, (hg _ (by omega) (by omega)).trans h.2.1, (hg _ (by omega) (by omega)).trans h.2.2.1, h.2.2.2.same fun g hg' => hg g (by omega) (by omega)⟩) (underF l id dv) (enters_of Tryz.func39 (by kernel_rfl) rfl)
    (fun k W o A' c' vs s hk hlow ro' hn0 hwt hvl hS hoc => by
      subst hvl
      have h1 := under1_any l A n c HL.out id dv w.heap.size (w.heap.size + 1 + 1 + 1) w.heap.size (w.heap.size + 1) (w.heap.size + 1 + 1) vs.length hk W hlow.2.2.2 hlow.1 hlow.2.1 hlow.2.2.1 _ ro' o A' o.length c' hS rfl (by have := op_short hk hwt; have := HL.out; omega)
      rw [underF_snoc l id dv vs o hk]
      exact h1)
    ro ⟨r2, r3, r4, HI.out.below hb⟩ R hR).mono ?_
  rintro e w2 ⟨rfl, fb, hfb, hro, _, hb2⟩
  have hb' : Below w.heap.size w w2 := hb.trans (hb2.mono (by omega))
  have hcc := iCells0 hro
  have hq := HQ.out
  unfold underC at hq
  rw [hR] at hq
  have HFB := hide hfb
  clear hfb hb hb2 r2 r3 r4 ro hro hR HQ
  cases R with
  | false =>
    have HQ2 := hide (show false = U by rw [← hq, Bool.false_and])
    clear hq
    go_wp2
    go_ret
    exact ⟨ret_bool HQ2.out, hb'⟩
  | true =>
    have HQ2 := hide (show fb = U by rw [← hq, Bool.true_and]; exact HFB.out rfl)
    clear hq
    go_wp2
    go_ret
    exact ⟨ret_bool HQ2.out, hb'⟩
theorem retI {a b : Int} (h : a = b) : Ending.returned (.int .i64 a) = .returned (.int .i64 b) := by rw [h]
/-- What Find says. -/
def findX (l : List Dg.It) (id : ByteArray) : Int := match l.findIdx? (fun x => decide (x.id = id)) with | some i => (i : Int) | none => -1
theorem findX_at {l : List Dg.It} {id : ByteArray} {k : Nat} (hk : k < l.length) (h : l[k].id = id) (hb : ∀ x ∈ l.take k, x.id ≠ id) : findX l id = (k : Int) := by
  have : l.findIdx? (fun x => decide (x.id = id)) = some k := by
    rw [List.findIdx?_eq_some_iff_getElem]
    refine ⟨hk, by rw [h]; exact decide_eq_true rfl, fun j hj => ?_⟩
    have := hb (l[j]'(by omega)) (List.mem_take_iff_getElem.2 ⟨j, by omega, rfl⟩)
    simpa using this
  unfold findX
  rw [this]
theorem findX_none {l : List Dg.It} {id : ByteArray} (hb : ∀ x ∈ l, x.id ≠ id) : findX l id = -1 := by
  have : l.findIdx? (fun x => decide (x.id = id)) = none := by
    rw [List.findIdx?_eq_none_iff]
    intro x hx
    simpa using hb x hx
  unfold findX
  rw [this]
set_option maxHeartbeats 4000000 in
theorem find1_any (x : Dg.It) (id : ByteArray) (b3 : Nat) (w : World) (r3 : w.heap[b3]? = some (.cells #[.string id] 9 (0, 0))) (R : Bool) (hR : (x.id.toList == id.toList) = R) :
    Calls Tryz.prog 65 #[.agg #[.int .i64 x.kind, .string x.id, .string x.parent, .string x.number, .string x.north, .string x.south, .bool x.gone], .pointer (some ⟨b3, 0, none⟩)] w fun e w' => e = .returned (.bool R) ∧ Below w.heap.size w w' := by
  have hb0 := Below.news (Below.refl w.heap.size w) (.cells #[.int .i64 x.kind, .string x.id, .string x.parent, .string x.number, .string x.north, .string x.south, .bool x.gone] 31)
  have hx0 := heap_alloc_new w (.cells #[.int .i64 x.kind, .string x.id, .string x.parent, .string x.number, .string x.north, .string x.south, .bool x.gone] 31)
  have c3 := iCells0 (iNext r3 hb0)
  obtain ⟨c0, c1, _⟩ := iCells hx0
  go_enter Tryz.func65, Tryz.ntmps65
  go_wp2
  go_ret
  exact ⟨rfl, hb0⟩
set_option maxHeartbeats 4000000 in
theorem Code.findf_any (l : List Dg.It) (A : Option Addr) (n c : Nat) (hl : l.length = n) (hn : n ≤ 1048576) (id : ByteArray) (b3 : Nat) (w : World) (hI : Its w w.heap.size A l) (r3 : w.heap[b3]? = some (.cells #[.string id] 9 (0, 0))) (K0 : Int) (hK0 : findX l id = K0) :
    Calls Tryz.prog 64 #[.slice A n c, .func (.func 65) #[] #[.pointer (some ⟨b3, 0, none⟩)]] w fun e w' => e = .returned (.int .i64 K0) ∧ Below w.heap.size w w' := by
  have HL := hide hl; have HK0 := hide hK0; have HI := hide hI; have HR3 := hide r3
  clear hl hK0 hI r3
  go_enter Tryz.func64, Tryz.ntmps64
  go_wp2
  go_loopw [8] (fun i wr => ∃ k : Nat, k ≤ n ∧ i = .int .i64 k ∧ Below w.heap.size w wr ∧ Hid (∀ x ∈ l.take k, x.id ≠ id)) (fun i _ => n - (intOf i).toNat)
  case atStart => exact ⟨0, by omega, rfl, Below.refl _ _, fun x hx => by simp at hx⟩
  case round =>
    obtain ⟨k, hk, rfl, hb, hall⟩ := hrel
    by_cases hlt : k < n
    · have hkl : k < l.length := by rw [HL.out]; exact hlt
      have hIr := HI.out.below hb
      obtain ⟨b, off, rfl⟩ := hIr.some hkl
      obtain ⟨x, hx⟩ : ∃ x, l[k] = x := ⟨_, rfl⟩
      obtain ⟨hbl, p0, p1, p2, p3, p4, p5, p6⟩ := hIr.cells hkl x hx
      have HX := hide hx
      clear hx hIr
      have hk0 : (0 : Int) ≤ (k : Int) := by omega
      have hkn : (k : Int) < (n : Int) := by omega
      go_wp2_with fail
      clear p0 p1 p2 p3 p4 p5 p6
      obtain ⟨R, hR⟩ : ∃ R, (x.id.toList == id.toList) = R := ⟨_, rfl⟩
      refine (find1_any x id b3 _ (iNext HR3.out hb) R hR).mono ?_
      rintro e w2 ⟨rfl, hb2⟩
      have hb3 := bnext hb hb2
      cases R with
      | true =>
        have HF := hide (show (k : Int) = K0 by rw [← HK0.out]; exact (findX_at hkl (by rw [HX.out]; exact (Lib.bytes_beq_iff _ _).1 hR) hall.out).symm)
        clear hR
        go_wp2
        go_ret
        exact ⟨retI HF.out, hb3⟩
      | false =>
        have hne : x.id ≠ id := (Lib.bytes_beq_false_iff _ _).1 hR
        have HA : Hid (∀ y ∈ l.take (k + 1), y.id ≠ id) := fun y hy => by
          rw [List.take_succ_eq_append_getElem hkl, HX.out] at hy
          rcases List.mem_append.1 hy with h | h
          · exact hall.out y h
          · rw [List.mem_singleton.1 h]; exact hne
        clear hR hne
        go_wp2
        go_roundw
        case rel => exact ⟨k + 1, by omega, by go_num, hb3, HA⟩
        case measure => simp [intOf]; omega
    · obtain rfl : k = n := by omega
      have HF := hide (show (-1 : Int) = K0 by rw [← HK0.out]; exact (findX_none (by have h := hall.out; rw [← HL.out, List.take_length] at h; exact h)).symm)
      go_wp2
      go_ret
      exact ⟨retI HF.out, hb⟩
set_option maxHeartbeats 4000000 in
theorem Code.find_of (l : List Dg.It) (A : Option Addr) (n c : Nat) (hl : l.length = n) (hn : n ≤ 1048576) (id : ByteArray) (w : World) (hI : Its w w.heap.size A l) (K0 : Int) (hK0 : findX l id = K0) :
    Calls Tryz.prog 27 #[.agg #[.slice A n c], .string id] w fun e w' => e = .returned (.int .i64 K0) ∧ Below w.heap.size w w' := by
  obtain ⟨r2, r3, hb, hs⟩ := iAlloc2 w (.cells #[.slice A n c] 24) (.cells #[.string id] 9)
  have hmf : ∀ (fn : Fn) (first cap : Array Value) (w : World), (Instr.makeFunc fn first cap).run Tryz.prog w = .ok (.func fn first cap) w := fun _ _ _ _ => rfl
  have HI := hide hI; have HL := hide hl; have HK0 := hide hK0
  clear hI hl hK0
  have hc2 := iCells0 r2
  go_enter Tryz.func27, Tryz.ntmps27
  go_wp2_with fail
  generalize (w.alloc (.cells #[.slice A n c] 24)).alloc (.cells #[.string id] 9) = W1 at *
  refine (Code.findf_any l A n c HL.out hn id (w.heap.size + 1) W1 (HI.out.keep hb) r3 K0 HK0.out).mono ?_
  rintro e w2 ⟨rfl, hb2⟩
  have hb3 := bnext hb hb2
  clear hc2 r2 r3
  go_wp2
  go_ret
  exact ⟨rfl, hb3⟩
end Go.Proofs.YtpldhempbdionaaGreatDoor
/- Leaves of package code. No conditions but those that each theorem states. -/
namespace Go.Proofs.YtpldhempbdionaaGreatDoor
open Go Go.RowKit Go.Sort Go.Maps
theorem lawIntC : Keyed Tryz.prog 3 := int_keyed Tryz.underlying3
theorem key_intC (m : Int) (m0 : -9223372036854775808 ≤ m) (m1 : m ≤ 9223372036854775807) : keyOf Tryz.prog 3 (.int .i64 m) = some (.int .i64 m) :=
  keyOf_int_mk Tryz.underlying3 (WalkArith.wf_i64 ⟨m0, m1⟩)
set_option maxRecDepth 100000 in
theorem plainElem_str_inv {v : Value} {z : DataW Unit × List MemPlace} (h : plainElem Tryz.prog 9 v = some z) : ∃ x, v = .string x ∧ z = (.lit (.string x.data.toList), []) := by
  unfold plainElem at h
  rw [Tryz.underlying9] at h
  split at h
  · rename_i h1; cases h1
  · rename_i h1; cases h1
  · split at h
    · cases h; exact ⟨_, rfl, rfl⟩
    · cases h
  · cases h
noncomputable def rSt : Value → Option (DataW Unit × List MemPlace) := plainElem Tryz.prog 9
noncomputable def kindD : DataW Unit := ((DataW.map []).put (.int .i64 1) (.lit (.string Dg.sD.data.toList))).put (.int .i64 2) (.lit (.string Dg.sA.data.toList))
theorem kindD_at (m : Int) (hm : m = 1 ∨ m = 2) : kindD.atKey (.int .i64 m) (.lit (.string [])) = .lit (.string (if m = 1 then Dg.sD else Dg.sA).data.toList) := by
  unfold kindD
  rcases hm with rfl | rfl
  · rw [atKey_put_other (fun e => by cases e), atKey_put_same isMap_empty (by trivial)]
    rfl
  · rw [atKey_put_same (isMap_empty.put _ _) (by trivial)]
    rfl
set_option maxRecDepth 100000 in
/-- The map of the kinds' letters, made and asked. -/
theorem kind_run (w : World) (m : Int) (hm : m = 1 ∨ m = 2) : ∃ wa wb, (Instr.mapUpdate 65 (.map (some w.heap.size)) (.int .i64 1) (.string Dg.sD)).run Tryz.prog (w.alloc (.map #[] 0)) = .ok () wa ∧ (Instr.mapUpdate 65 (.map (some w.heap.size)) (.int .i64 2) (.string Dg.sA)).run Tryz.prog wa = .ok () wb ∧
    (Instr.lookup 65 (.map (some w.heap.size)) (.int .i64 m) false).run Tryz.prog wb = .ok (.string (if m = 1 then Dg.sD else Dg.sA)) wb ∧ Below w.heap.size w wb := by
  have h0 := World.ownsMap_made w Tryz.prog 3 rSt
  obtain ⟨wa, r1, h1, g1⟩ := World.ownsMap.update h0 lawIntC Tryz.underlying65 (by unfold maxLen; omega) (key_intC 1 (by omega) (by omega)) (plainElem_string (H := Unit) Tryz.underlying9 (s := Dg.sD) (by decide))
  obtain ⟨wb, r2, h2, g2⟩ := World.ownsMap.update h1 lawIntC Tryz.underlying65 (by unfold maxLen; omega) (key_intC 2 (by omega) (by omega)) (plainElem_string (H := Unit) Tryz.underlying9 (s := Dg.sA) (by decide))
  obtain ⟨v, ps, r3, hv⟩ := h2.lookup lawIntC Tryz.underlying65 (z := .string ⟨#[]⟩) (by kernel_rfl) (plainElem_string Tryz.underlying9 (s := ⟨#[]⟩) (by decide)) (key_intC m (by rcases hm with rfl | rfl <;> omega) (by rcases hm with rfl | rfl <;> omega))
  rw [show (((DataW.map []).put (Lit.int IntKind.i64 1) (DataW.lit (Lit.string Dg.sD.data.toList))).put (Lit.int IntKind.i64 2) (DataW.lit (Lit.string Dg.sA.data.toList)) : DataW Unit).atKey (.int .i64 m) (.lit (.string (⟨#[]⟩ : ByteArray).data.toList)) = _ from kindD_at m hm] at hv
  obtain ⟨x, rfl, hx⟩ := plainElem_str_inv hv
  injection hx with hx _
  injection hx with hx
  injection hx with hx
  have hxx : x = (if m = 1 then Dg.sD else Dg.sA) := Dg.L_inj hx.symm
  rw [hxx] at r3
  refine ⟨wa, wb, r1, r2, r3, ?_⟩
  have x0 := Below.news (Below.refl w.heap.size w) (.map #[] 0)
  exact (x0.grown g1 x0.size (fun j hj => by cases hj; exact Nat.le_refl _)).grown g2 (Nat.le_trans x0.size g1.size) (fun j hj => by cases hj; exact Nat.le_refl _)
set_option maxRecDepth 100000 in
set_option maxHeartbeats 8000000 in
theorem leaves1_any (l : List Dg.It) (AI : Option Addr) (n c : Nat) (hl : l.length = n) (B0 n0 bo b2 : Nat) (hbo : bo < n0) (hB2 : B0 ≤ bo) (k : Nat) (hk : k < l.length) (W : World) (he : Env W) (hI : Its W B0 AI l) (hkd : l[k].kind = 1 ∨ l[k].kind = 2) (hz : ∀ s ∈ Dg.fieldsI l[k], s.size ≤ 1073741824)
    (r2 : W.heap[b2]? = some (.cells #[.slice AI n c] 24 (0, 0))) (v : Value) (L : List ByteArray) (hO : OutAt bo n0 W v L) (hLl : L.length ≤ 1099511627000) (hn0 : n0 ≤ W.heap.size) (A : Option Addr) (m co : Nat) :
    Calls Tryz.prog 47 #[.int .i64 (k : Int), .slice A m co, .pointer (some ⟨b2, 0, none⟩), .pointer (some ⟨bo, 0, none⟩)] W fun e W' => e = .returned (.tuple #[]) ∧ OutStep bo n0 W W' v (if l[k].gone = true then L else L ++ [Dg.leafI l[k]]) := by
  have hB0 : B0 ≤ W.heap.size := by omega
  obtain ⟨b, off, rfl⟩ := hI.some hk
  obtain ⟨x, hx⟩ : ∃ x, l[k] = x := ⟨_, rfl⟩
  obtain ⟨hbl, p0, p1, p2, p3, p4, p5, p6⟩ := hI.cells hk x hx
  rw [hx] at hkd hz ⊢
  have HZ := hide hz
  clear hx hz
  obtain ⟨L2, hL2⟩ : ∃ L2, (if x.gone = true then L else L ++ [Dg.leafI x]) = L2 := ⟨_, rfl⟩
  rw [hL2]
  have HL2 := hide hL2
  clear hL2
  have hidx : (k : Int) < (n : Int) := by omega
  have hk0 : (0 : Int) ≤ (k : Int) := by omega
  have hc2 := iCells0 r2
  have hx1 := Below.news (Below.refl W.heap.size W) (.cells #[.int .i64 x.kind, .string x.id, .string x.parent, .string x.number, .string x.north, .string x.south, .bool x.gone] 31)
  have hrow := heap_alloc_new W (.cells #[.int .i64 x.kind, .string x.id, .string x.parent, .string x.number, .string x.north, .string x.south, .bool x.gone] 31)
  have hmm := @run_makeMap Tryz.prog
  obtain ⟨wa, wb, q1, q2, q3, hq⟩ := kind_run (W.alloc (.cells #[.int .i64 x.kind, .string x.id, .string x.parent, .string x.number, .string x.north, .string x.south, .bool x.gone] 31)) x.kind hkd
  obtain ⟨KW, hKW⟩ : ∃ K, (if x.kind = 1 then Dg.sD else Dg.sA) = K := ⟨_, rfl⟩
  rw [hKW] at q3
  have HKW := hide hKW
  have hKD : Hid (x.kind = 1 ∨ x.kind = 2) := hkd
  clear hKW hkd
  have hsz1 : (W.alloc (.cells #[.int .i64 x.kind, .string x.id, .string x.parent, .string x.number, .string x.north, .string x.south, .bool x.gone] 31)).heap.size = W.heap.size + 1 := by simp
  rw [hsz1] at q1 q2 q3
  clear hsz1
  unfold Dg.sD at q1
  unfold Dg.sA at q2
  go_enter Tryz.func47, Tryz.ntmps47
  go_upto_region 1 with (fail)
  have hxx := bnext hx1 hq
  have hrowb := iNext hrow hq
  obtain ⟨c0, c1, c2, c3, c4, c5, c6⟩ := iCells (iNext hrow hq)
  clear p0 p1 p2 p3 p4 p5 p6 hc2 r2
  go_upto_region 2 with (fail)
  have hOb : OutAt bo n0 wb v L := hO.same (fun g hg => hxx.block g (by
    rcases mem_outS hg with rfl | e
    · exact lt_of_block hO.row
    · exact (OwnV.lt hO.own e).2))
  have hsb := hide hxx.size
  have hXX := hide hxx
  have hbi : Hid (W.heap.size < wb.heap.size) := lt_of_block hrowb
  clear q1 q2 q3 hq hrow hx1 hmm
  cases hgo : x.gone with
  | true =>
    have e2 : L = L2 := by rw [← HL2.out, if_pos hgo]
    subst e2
    rw [hgo] at c6
    clear hgo
    go_wp2
    go_end0
    exact ⟨rfl, OutStep.none hO hXX.out⟩
  | false =>
    have e2 := hide (show L ++ [Dg.leafI x] = L2 by rw [← HL2.out, if_neg (by rw [hgo]; exact Bool.false_ne_true)])
    rw [hgo] at c6
    go_upto_region 3 with (fail)
    have hmx : Tryz.prog.follows .mixedOrders = true := by kernel_rfl
    have hHeld : (fun X_ : World => X_.heap[bo]? = some (.cells #[v] 28 (0, 0)) ∧ X_.heap[W.heap.size]? = some (.cells #[.int .i64 x.kind, .string x.id, .string x.parent, .string x.number, .string x.north, .string x.south, .bool x.gone] 31 (0, 0))) wb.drew := ⟨hOb.row, hrowb⟩
    have hOd : OutAt bo n0 wb.drew v L := ⟨hOb.row, hOb.own.below (Below.refl wb.heap.size wb).drew⟩
    have hxd : Below W.heap.size W wb.drew := bnext hXX.out (Below.refl wb.heap.size wb).drew
    have hed := he.next hxd
    refine wp_region_noPanic ?_
    refine wp_region_L (fun X_ : World => X_.heap[bo]? = some (.cells #[v] 28 (0, 0)) ∧ X_.heap[W.heap.size]? = some (.cells #[.int .i64 x.kind, .string x.id, .string x.parent, .string x.number, .string x.north, .string x.south, .bool x.gone] 31 (0, 0))) 14 hmx ?_
    generalize wb.drew = u0 at *
    clear hrowb hOb c0 c1 c2 c3 c4 c5 c6 hsb hXX hbi
    refine wpAnyL_take (i := 0) (f0 := 16) (v := ?_) rfl (by decide +kernel) (by decide +kernel) (by decide +kernel) (by decide +kernel) (by decide +kernel) (fun _ _ _ h => h) (Or.inl ⟨by rfl, ?_⟩) hHeld ?_
    rotate_left
    · intro wS hS; obtain ⟨hS1, hS2⟩ := hS; have c9 := iCells0 hS1; go_simp; (try with_reducible rfl)
    simp only [Act.put, List.getElem_toArray, List.getElem_cons_zero, List.setIfInBounds_toArray, List.set_cons_succ, List.set_cons_zero]
    refine wpAnyL_take (i := 1) (f0 := 16) (v := ?_) rfl (by decide +kernel) (by decide +kernel) (by decide +kernel) (by decide +kernel) (by decide +kernel) (fun _ _ _ h => h) (Or.inl ⟨by rfl, ?_⟩) hHeld ?_
    rotate_left
    · intro wS hS; obtain ⟨hS1, hS2⟩ := hS; go_simp; (try with_reducible rfl)
    simp only [Act.put, List.getElem_toArray, List.getElem_cons_succ, List.getElem_cons_zero, List.setIfInBounds_toArray, List.set_cons_succ, List.set_cons_zero]
    refine wpAnyL_take (i := 2) (f0 := 16) (v := ?_) rfl (by decide +kernel) (by decide +kernel) (by decide +kernel) (by decide +kernel) (by decide +kernel) (fun _ _ _ h => h) (Or.inl ⟨by rfl, ?_⟩) hHeld ?_
    rotate_left
    · intro wS hS; obtain ⟨hS1, hS2⟩ := hS; go_simp; (try with_reducible rfl)
    simp only [Act.put, List.getElem_toArray, List.getElem_cons_succ, List.getElem_cons_zero, List.setIfInBounds_toArray, List.set_cons_succ, List.set_cons_zero]
    refine wpAnyL_take (i := 3) (f0 := 16) (v := ?_) rfl (by decide +kernel) (by decide +kernel) (by decide +kernel) (by decide +kernel) (by decide +kernel) (fun _ _ _ h => h) (Or.inl ⟨by rfl, ?_⟩) hHeld ?_
    rotate_left
    · intro wS hS; obtain ⟨hS1, hS2⟩ := hS; obtain ⟨c0, c1, c2, c3, c4, c5, c6⟩ := iCells hS2; go_simp; (try with_reducible rfl)
    simp only [Act.put, List.getElem_toArray, List.getElem_cons_succ, List.getElem_cons_zero, List.setIfInBounds_toArray, List.set_cons_succ, List.set_cons_zero]
    refine wpAnyL_take (i := 4) (f0 := 16) (v := ?_) rfl (by decide +kernel) (by decide +kernel) (by decide +kernel) (by decide +kernel) (by decide +kernel) (fun _ _ _ h => h) (Or.inl ⟨by rfl, ?_⟩) hHeld ?_
    rotate_left
    · intro wS hS; obtain ⟨hS1, hS2⟩ := hS; go_simp; (try with_reducible rfl)
    simp only [Act.put, List.getElem_toArray, List.getElem_cons_succ, List.getElem_cons_zero, List.setIfInBounds_toArray, List.set_cons_succ, List.set_cons_zero]
    refine wpAnyL_take (i := 5) (f0 := 16) (v := ?_) rfl (by decide +kernel) (by decide +kernel) (by decide +kernel) (by decide +kernel) (by decide +kernel) (fun _ _ _ h => h) (Or.inl ⟨by rfl, ?_⟩) hHeld ?_
    rotate_left
    · intro wS hS; obtain ⟨hS1, hS2⟩ := hS; obtain ⟨c0, c1, c2, c3, c4, c5, c6⟩ := iCells hS2; go_simp; (try with_reducible rfl)
    simp only [Act.put, List.getElem_toArray, List.getElem_cons_succ, List.getElem_cons_zero, List.setIfInBounds_toArray, List.set_cons_succ, List.set_cons_zero]
    refine wpAnyL_take (i := 6) (f0 := 16) (v := ?_) rfl (by decide +kernel) (by decide +kernel) (by decide +kernel) (by decide +kernel) (by decide +kernel) (fun _ _ _ h => h) (Or.inl ⟨by rfl, ?_⟩) hHeld ?_
    rotate_left
    · intro wS hS; obtain ⟨hS1, hS2⟩ := hS; go_simp; (try with_reducible rfl)
    simp only [Act.put, List.getElem_toArray, List.getElem_cons_succ, List.getElem_cons_zero, List.setIfInBounds_toArray, List.set_cons_succ, List.set_cons_zero]
    refine wpAnyL_take (i := 7) (f0 := 16) (v := ?_) rfl (by decide +kernel) (by decide +kernel) (by decide +kernel) (by decide +kernel) (by decide +kernel) (fun _ _ _ h => h) (Or.inl ⟨by rfl, ?_⟩) hHeld ?_
    rotate_left
    · intro wS hS; obtain ⟨hS1, hS2⟩ := hS; obtain ⟨c0, c1, c2, c3, c4, c5, c6⟩ := iCells hS2; go_simp; (try with_reducible rfl)
    simp only [Act.put, List.getElem_toArray, List.getElem_cons_succ, List.getElem_cons_zero, List.setIfInBounds_toArray, List.set_cons_succ, List.set_cons_zero]
    refine wpAnyL_take (i := 8) (f0 := 16) (v := ?_) rfl (by decide +kernel) (by decide +kernel) (by decide +kernel) (by decide +kernel) (by decide +kernel) (fun _ _ _ h => h) (Or.inl ⟨by rfl, ?_⟩) hHeld ?_
    rotate_left
    · intro wS hS; obtain ⟨hS1, hS2⟩ := hS; go_simp; (try with_reducible rfl)
    simp only [Act.put, List.getElem_toArray, List.getElem_cons_succ, List.getElem_cons_zero, List.setIfInBounds_toArray, List.set_cons_succ, List.set_cons_zero]
    refine wpAnyL_take (i := 9) (f0 := 16) (v := ?_) rfl (by decide +kernel) (by decide +kernel) (by decide +kernel) (by decide +kernel) (by decide +kernel) (fun _ _ _ h => h) (Or.inl ⟨by rfl, ?_⟩) hHeld ?_
    rotate_left
    · intro wS hS; obtain ⟨hS1, hS2⟩ := hS; obtain ⟨c0, c1, c2, c3, c4, c5, c6⟩ := iCells hS2; go_simp; (try with_reducible rfl)
    simp only [Act.put, List.getElem_toArray, List.getElem_cons_succ, List.getElem_cons_zero, List.setIfInBounds_toArray, List.set_cons_succ, List.set_cons_zero]
    refine wpAnyL_one (i := 10) (by decide +kernel) (by rfl) (fun K hK => ?_)
    rw [if_pos (by rfl)]
    go_simp
    have hx10 := Below.news (Below.refl u0.heap.size u0) (.cells #[.string KW, .string x.id, .string x.parent, .string x.north, .string x.south] 9)
    have hHeld10 : (fun X_ : World => X_.heap[bo]? = some (.cells #[v] 28 (0, 0)) ∧ X_.heap[W.heap.size]? = some (.cells #[.int .i64 x.kind, .string x.id, .string x.parent, .string x.number, .string x.north, .string x.south, .bool x.gone] 31 (0, 0))) (u0.alloc (.cells #[.string KW, .string x.id, .string x.parent, .string x.north, .string x.south] 9)) := ⟨iNext hHeld.1 hx10, iNext hHeld.2 hx10⟩
    refine hK.out _ _ (Or.inr hHeld10) ?_
    clear hK K
    try simp only [Act.put, List.getElem_toArray, List.getElem_cons_succ, List.getElem_cons_zero, List.setIfInBounds_toArray, List.set_cons_succ, List.set_cons_zero]
    refine wpAnyL_one (i := 11) (by decide +kernel) (by rfl) (fun K hK => ?_)
    rw [if_pos (by rfl)]
    go_simp
    have hst5 : Strs (u0.alloc (.cells #[.string KW, .string x.id, .string x.parent, .string x.north, .string x.south] 9)) (u0.alloc (.cells #[.string KW, .string x.id, .string x.parent, .string x.north, .string x.south] 9)).heap.size (some ⟨u0.heap.size, 0, none⟩) [KW, x.id, x.parent, x.north, x.south] := Strs.new u0 _ _ _ rfl
    have hkw : KW.size ≤ 1 := by rw [← HKW.out]; split <;> decide
    refine (Code.joined_of _ 5 5 [KW, x.id, x.parent, x.north, x.south] rfl (by omega) (fun s hs => by
      rcases List.mem_cons.1 hs with rfl | hs
      · omega
      · refine HZ.out s ?_
        unfold Dg.fieldsI
        rcases List.mem_cons.1 hs with rfl | hs
        · simp
        · rcases List.mem_cons.1 hs with rfl | hs
          · simp
          · rcases List.mem_cons.1 hs with rfl | hs
            · simp
            · rcases List.mem_cons.1 hs with rfl | hs
              · simp
              · cases hs) _ (hed.next hx10) hst5 (Dg.leafI x) (by unfold Dg.leafI; rw [HKW.out])).mono ?_
    rintro e u11 ⟨rfl, hb11⟩
    have hx11 := bnext hx10 hb11
    have hHeld11 : (fun X_ : World => X_.heap[bo]? = some (.cells #[v] 28 (0, 0)) ∧ X_.heap[W.heap.size]? = some (.cells #[.int .i64 x.kind, .string x.id, .string x.parent, .string x.number, .string x.north, .string x.south, .bool x.gone] 31 (0, 0))) u11 := ⟨iNext hHeld.1 hx11, iNext hHeld.2 hx11⟩
    refine hK.out _ _ (Or.inr hHeld11) ?_
    clear hK K hst5 hHeld10
    try simp only [Act.put, List.getElem_toArray, List.getElem_cons_succ, List.getElem_cons_zero, List.setIfInBounds_toArray, List.set_cons_succ, List.set_cons_zero]
    obtain ⟨LF, hLF⟩ : ∃ F, Dg.leafI x = F := ⟨_, rfl⟩
    rw [hLF] at e2 ⊢
    refine wpAnyL_one (i := 12) (by decide +kernel) (by rfl) (fun K hK => ?_)
    rw [if_pos (by rfl)]
    go_simp
    have hx12 := bnext hx11 (Below.news (Below.refl u11.heap.size u11) (.cells #[.string LF] 9))
    have hHeld12 : (fun X_ : World => X_.heap[bo]? = some (.cells #[v] 28 (0, 0)) ∧ X_.heap[W.heap.size]? = some (.cells #[.int .i64 x.kind, .string x.id, .string x.parent, .string x.number, .string x.north, .string x.south, .bool x.gone] 31 (0, 0))) (u11.alloc (.cells #[.string LF] 9)) := ⟨iNext hHeld.1 hx12, iNext hHeld.2 hx12⟩
    refine hK.out _ _ (Or.inr hHeld12) ?_
    clear hK K hHeld11
    try simp only [Act.put, List.getElem_toArray, List.getElem_cons_succ, List.getElem_cons_zero, List.setIfInBounds_toArray, List.set_cons_succ, List.set_cons_zero]
    refine wpAnyL_one (i := 13) (by decide +kernel) (by rfl) (fun K hK => ?_)
    rw [if_pos (by rfl)]
    have hn00 : n0 ≤ u0.heap.size := Nat.le_trans hn0 hxd.size
    refine wp_ag (.tmp 21) (.tmp 33) (by rfl) n0 v L [LF] (by rfl) (OwnS.below hOd.own hx12) ⟨u11.heap.size, 0, none⟩ 1 1 (by rfl) rfl (fun j s hj => by
      cases j with
      | zero => cases hj; exact cell_of_row _ _ _ _ _ (0, 0) (heap_alloc_new u11 _)
      | succ j => cases hj) (by omega) (Nat.le_trans hn00 hx12.size) ?_
    intro v8 u13 hO8 hg8 hat8
    have hrw := (out_row hOd hbo hn00 hx12 hg8).1
    have hrow13 : u13.heap[W.heap.size]? = some (.cells #[.int .i64 x.kind, .string x.id, .string x.parent, .string x.number, .string x.north, .string x.south, .bool x.gone] 31 (0, 0)) := (hg8.block _ (lt_of_block hHeld12.2) (fun e => by have := (OwnV.lt hO.own e.symm).2; omega)).trans hHeld12.2
    have hHeld13 : (fun X_ : World => X_.heap[bo]? = some (.cells #[v] 28 (0, 0)) ∧ X_.heap[W.heap.size]? = some (.cells #[.int .i64 x.kind, .string x.id, .string x.parent, .string x.number, .string x.north, .string x.south, .bool x.gone] 31 (0, 0))) u13 := ⟨hrw, hrow13⟩
    refine hK.out _ _ (Or.inr hHeld13) ?_
    clear hK K hHeld12
    try simp only [Act.put, List.getElem_toArray, List.getElem_cons_succ, List.getElem_cons_zero, List.setIfInBounds_toArray, List.set_cons_succ, List.set_cons_zero]
    have fz := frozen_of_row _ bo 0 _ _ hrw
    have hoc := iCells0 hrw
    obtain ⟨A8, c8, e8, _, _⟩ := hO8.strs
    rw [show (L ++ [LF]).length = L.length + 1 by simp] at e8
    subst e8
    refine wpAnyL_one (i := 14) (by decide +kernel) (by rfl) (fun K hK => ?_)
    rw [if_pos (by rfl)]
    go_simp
    refine hK.out _ _ (Or.inl (by decide +kernel)) ?_
    clear hK K
    try simp only [Act.put, List.getElem_toArray, List.getElem_cons_succ, List.getElem_cons_zero, List.setIfInBounds_toArray, List.set_cons_succ, List.set_cons_zero]
    have HS := hide (out_done hO hbo hn0 (bnext hxd hx12) hg8 hO8 hat8)
    clear fz hoc hrw hrow13 hHeld13 hO8 hg8 hat8 hOd hx10 hb11 hx11 hx12
    refine wpAnyL_done (by decide +kernel) ?_ _
    refine NoPanic.normal ?_
    go_wp2
    go_end0
    exact ⟨rfl, by rw [← e2.out]; exact HS.out⟩
end Go.Proofs.YtpldhempbdionaaGreatDoor
/- Leaves of package code, the whole. No conditions but those that each theorem states. -/
namespace Go.Proofs.YtpldhempbdionaaGreatDoor
open Go Go.RowKit Go.Sort Go.Maps
theorem Env.same {w w' : World} (h : Env w) (hg : w'.heap[3]? = w.heap[3]?) : Env w' := by
  unfold Env Lib.TabIs at h ⊢
  unfold World.var? at h ⊢
  simp only [gPow, Option.bind_some] at h ⊢
  rw [hg]
  exact h
theorem leavesOf_snoc (l : List Dg.It) (k : Nat) (hk : k < l.length) : Dg.leavesOf (l.take (k + 1)) = if l[k].gone = true then Dg.leavesOf (l.take k) else Dg.leavesOf (l.take k) ++ [Dg.leafI l[k]] := by
  unfold Dg.leavesOf
  rw [List.take_succ_eq_append_getElem hk, List.filter_append, List.map_append]
  by_cases h : l[k].gone = true
  · rw [if_pos h, List.filter_cons_of_neg (by simp [h]), List.filter_nil, List.map_nil, List.append_nil]
  · rw [if_neg h, List.filter_cons_of_pos (by simpa using h), List.filter_nil]; rfl
theorem leavesOf_len (l : List Dg.It) : (Dg.leavesOf l).length ≤ l.length := by
  unfold Dg.leavesOf
  rw [List.length_map]
  exact List.length_filter_le _ _
theorem visit_kind {l : List Dg.It} {k : Nat} (hk : k < l.length) {r : List (List ByteArray) × Dg.Wk} (h : Dg.walkTo l (k + 1) = some r) : l[k].kind = 1 ∨ l[k].kind = 2 := by
  obtain ⟨vs, s⟩ := r
  obtain ⟨vs0, s0, o, _, h2, _⟩ := Dg.walk_step hk h
  have hp := (Dg.stepI_some h2).1
  rcases Dg.proper_kind hp with ⟨e, _⟩ | ⟨e, _⟩
  · exact Or.inl e
  · exact Or.inr e
set_option maxRecDepth 100000 in
set_option maxHeartbeats 4000000 in
theorem Code.leaves_of (l : List Dg.It) (A : Option Addr) (n c : Nat) (hl : l.length = n) (hw : ∀ x ∈ l, ItW x) (hn : n ≤ 1048576) (w : World) (he : Env w) (hI : Its w w.heap.size A l) (hz : ∀ x ∈ l, ∀ s ∈ Dg.fieldsI x, s.size ≤ 1073741824) (L : List ByteArray) (hL : Dg.leavesC l = L) :
    Calls Tryz.prog 20 #[.agg #[.slice A n c]] w fun e w' => (∃ A' c', e = .returned (.slice A' L.length c') ∧ L.length ≤ c' ∧ Strs w' w'.heap.size A' L) ∧ Below w.heap.size w w' := by
  obtain ⟨r2, ro, hb, hs⟩ := iAlloc2 w (.cells #[.slice A n c] 24) (.cells #[.slice none 0 0] 28)
  have hmf : ∀ (fn : Fn) (first cap : Array Value) (w : World), (Instr.makeFunc fn first cap).run Tryz.prog w = .ok (.func fn first cap) w := fun _ _ _ _ => rfl
  have HI := hide hI; have HW := hide hw; have HL := hide hl; have HQ := hide hL; have HZ := hide hz
  have hgl := he.lt
  clear hI hw hl hL hz
  go_enter Tryz.func20, Tryz.ntmps20
  go_wp2_with fail
  obtain ⟨R, hR⟩ : ∃ R, Dg.validC l = R := ⟨_, rfl⟩
  generalize (w.alloc (.cells #[.slice A n c] 24)).alloc (.cells #[.slice none 0 0] 28) = W1 at *
  refine (out_walk l A n c HL.out HW.out (by omega) w.heap.size (w.heap.size + 1) W1 (HI.out.below hb) (by omega) (by omega) (fun W => W.heap[w.heap.size]? = some (.cells #[.slice A n c] 24 (0, 0)) ∧ Its W w.heap.size A l ∧ Env W)
    (fun W W' h hg => ⟨(hg _ (by omega) (by omega)).trans h.1, h.2.1.same fun g hg' => hg g (by omega) (by omega), h.2.2.same (hg _ (by omega) (by omega))⟩) (fun vs => Dg.leavesOf (l.take vs.length)) (enters_of Tryz.func47 (by kernel_rfl) rfl)
    (fun k W v o A' c' vs s hk hlow hO hn0 hwt hvl hS hoc => by
      subst hvl
      have h1 := leaves1_any l A n c HL.out w.heap.size W1.heap.size (w.heap.size + 1) w.heap.size (by omega) (by omega) vs.length hk W hlow.2.2 hlow.2.1 (visit_kind hk hwt) (HZ.out _ (List.getElem_mem hk)) hlow.1 v _ hO (by have h9 := leavesOf_len (l.take vs.length); rw [List.length_take] at h9; have := HL.out; omega) hn0 A' o.length c'
      rw [← leavesOf_snoc l vs.length hk] at h1
      rw [List.length_append, List.length_singleton]
      exact h1)
    ⟨ro, OwnS.nil _ _⟩ ⟨r2, HI.out.below hb, he.next hb⟩ R hR).mono ?_
  rintro e w2 ⟨rfl, v, L', hL', hO2, _, hb2, hsz2⟩
  have hb' : Below w.heap.size w w2 := hb.trans (hb2.mono (by omega))
  obtain ⟨A2, c2, rfl, hc2, hS2⟩ := hO2.own.strs
  have hcc := iCells0 hO2.row
  have hq := HQ.out
  unfold Dg.leavesC at hq
  rw [hR] at hq
  have HLL := hide hL'
  have hv := hide hR
  clear hL' hb hb2 r2 ro hO2 hR HQ hgl
  cases R with
  | false =>
    rw [if_neg Bool.false_ne_true] at hq
    subst hq
    go_wp2
    go_ret
    exact ⟨⟨none, 0, rfl, Nat.le_refl _, Strs.nil _ _ _⟩, hb'⟩
  | true =>
    rw [if_pos rfl] at hq
    have e9 := HLL.out rfl
    rw [visits_le l hv.out, List.take_length, hq] at e9
    subst e9
    have HQ2 := hide hq
    clear hq
    go_wp2
    go_ret
    exact ⟨⟨A2, c2, rfl, hc2, hS2⟩, hb'⟩
end Go.Proofs.YtpldhempbdionaaGreatDoor
/- Slices of items of the call's own. No conditions but those that each theorem states. -/
namespace Go.Proofs.YtpldhempbdionaaGreatDoor
open Go Go.RowKit Go.Sort Go.Maps
theorem itemInfo : (Tryz.prog.info? 31).map (fun i => (i.zero, i.size, i.bytes)) = some (some (.agg #[.int .i64 0, .string ⟨#[]⟩, .string ⟨#[]⟩, .string ⟨#[]⟩, .string ⟨#[]⟩, .string ⟨#[]⟩, .bool false]), 7, 96) := by kernel_rfl
def itL (x : Dg.It) : List Value := [.int .i64 x.kind, .string x.id, .string x.parent, .string x.number, .string x.north, .string x.south, .bool x.gone]
/-- Items of the call's own, from block B on. -/
def OwnI (w : World) (B : Nat) (v : Value) (l : List Dg.It) : Prop := w.ownsRow B 31 7 v l.length (l.flatMap itL)
theorem itL_len (l : List Dg.It) : (l.flatMap itL).length = l.length * 7 := by
  induction l with
  | nil => rfl
  | cons c l ih => rw [List.flatMap_cons, List.length_append, ih, List.length_cons]; show 7 + l.length * 7 = _; omega
theorem itL_one (l : List Dg.It) : ∀ u ∈ l.flatMap itL, u.oneCell' = true := fun u hu => by
  obtain ⟨c, _, hc⟩ := List.mem_flatMap.1 hu
  simp only [itL, List.mem_cons, List.not_mem_nil, or_false] at hc
  rcases hc with rfl | rfl | rfl | rfl | rfl | rfl | rfl <;> rfl
theorem itL_get : ∀ (l : List Dg.It) (j i : Nat) (x : Dg.It), l[j]? = some x → i < 7 → (l.flatMap itL)[j * 7 + i]? = (itL x)[i]?
  | [], j, i, c, h, _ => by simp at h
  | a :: l, 0, i, c, h, hi => by
    obtain rfl : a = c := by simpa using h
    rw [List.flatMap_cons, Nat.zero_mul, Nat.zero_add, List.getElem?_append_left (by exact hi)]
  | a :: l, j + 1, i, c, h, hi => by
    have h7 : (itL a).length = 7 := rfl
    rw [List.flatMap_cons, List.getElem?_append_right (by omega), h7, show (j + 1) * 7 + i - 7 = j * 7 + i by omega]
    exact itL_get l j i c (by simpa using h) hi
theorem OwnI.below {w w' : World} {B : Nat} {v : Value} {l : List Dg.It} (h : OwnI w B v l) (hb : Below w.heap.size w w') : OwnI w' B v l := own_below h hb
theorem OwnI.its {w : World} {B : Nat} {v : Value} {l : List Dg.It} (h : OwnI w B v l) : ∃ A c, v = .slice A l.length c ∧ l.length ≤ c ∧ Its w w.heap.size A l := by
  rcases h.2 with ⟨rfl, h0⟩ | ⟨g, cap, cur, rfl, hB, hg, hc, _, hsz, hx⟩
  · obtain rfl := List.length_eq_zero_iff.1 h0
    exact ⟨none, 0, rfl, Nat.le_refl _, Its.nil _ _ _⟩
  · refine ⟨_, cap, rfl, hc, ⟨fun _ => ⟨g, 0, rfl, lt_of_block hg, fun j x hj i u hu => ?_⟩⟩⟩
    have hi : i < 7 := (Array.getElem?_eq_some_iff.1 hu).1
    rw [Nat.zero_add, cell_of_row _ _ _ _ _ (0, 0) hg, ← Array.getElem?_toList]
    have h1 : (cur.toList.take (l.length * 7))[j * 7 + i]? = some u := by
      rw [hx, itL_get l j i x hj hi]
      rw [← Array.getElem?_toList] at hu
      exact hu
    rw [List.getElem?_take] at h1
    split at h1
    · exact h1
    · cases h1
theorem OwnI.lit (w : World) (B : Nat) (hB : B ≤ w.heap.size) (l : List Dg.It) (n : Nat) (hn : l.length = n) (hm : n ≤ 1099511627776) (cs : Array Value) (h : cs.toList = l.flatMap itL) : OwnI (w.alloc (.cells cs 31)) B (.slice (some ⟨w.heap.size, 0, none⟩) n n) l := by
  subst hn
  have h1 : cs.size = l.length * 7 := by rw [← Array.length_toList, h, itL_len]
  have h2 := World.ownsRow_lit (e := 31) (size := 7) w cs l.length hB (by unfold maxLen; omega) h1
  unfold OwnI
  rw [← h]
  exact h2
/-- Cells of items in a row, or none. -/
def SrcI (w : World) (A : Option Addr) (l : List Dg.It) : Prop := l = [] ∨ ∃ b off, A = some ⟨b, off, none⟩ ∧ ∀ (j : Nat) u, (l.flatMap itL)[j]? = some u → w.cell? ⟨b, off + j, none⟩ = some u
theorem Its.src {w : World} {B : Nat} {A : Option Addr} {l : List Dg.It} (h : Its w B A l) : SrcI w A l := by
  rcases Nat.eq_zero_or_pos l.length with h0 | h0
  · exact Or.inl (List.length_eq_zero_iff.1 h0)
  · obtain ⟨b, off, rfl, hb, hc⟩ := h.at_ h0
    refine Or.inr ⟨b, off, rfl, fun j u hu => ?_⟩
    have hjl : j < l.length * 7 := by
      have := (List.getElem?_eq_some_iff.1 hu).1
      rw [itL_len] at this
      exact this
    have hd : j / 7 < l.length := by omega
    have hm : j % 7 < 7 := Nat.mod_lt _ (by omega)
    have hj : j = j / 7 * 7 + j % 7 := by omega
    rw [hj, itL_get l _ _ _ (List.getElem?_eq_getElem hd) hm] at hu
    have := hc (j / 7) _ (List.getElem?_eq_getElem hd) (j % 7) u (by rw [← Array.getElem?_toList]; exact hu)
    rw [hj, show off + (j / 7 * 7 + j % 7) = off + j / 7 * 7 + j % 7 by omega]
    exact this
/-- An append of a slice of items. -/
theorem wp_ai {w : World} {o : Oper} {a : Act} {K : Act → World → Prop} {Q : Exit → Act → World → Prop} (sl x : Operand)
    (ho : o.op = .call { callee := .builtin .append, args := #[sl, x], argTypes := #[22, 22] })
    (B : Nat) (v : Value) (l m : List Dg.It) (hs : a.eval sl = v) (hO : OwnI w B v l) (A : Option Addr) (n cap : Nat) (hx : a.eval x = .slice A n cap) (hn : m.length = n) (hsrc : SrcI w A m)
    (hlen : (l.length + n) * 96 ≤ 140737488355328) (hB : B ≤ w.heap.size)
    (h : ∀ v' w', OwnI w' B v' (l ++ m) → Below B w w' → w.grownBy w' v.ownBlock → K (a.put o.dst v') w') : o.wp Tryz.prog a w K Q := by
  subst hn
  obtain ⟨i, h1, h2, h3, h4⟩ := info_parts itemInfo
  have hrun0 : ∀ c, (Builtin.append_ #[22, 22] o.type #[v, .slice none 0 c]).run Tryz.prog w = .ok v w := fun c => run_append_none (P := Tryz.prog) B 22 o.type 31 i 7 Tryz.underlying22 h1 v l.length _ hO c
  have key : ∃ v' w', (Builtin.append_ #[22, 22] o.type #[v, .slice A m.length cap]).run Tryz.prog w = .ok v' w' ∧ OwnI w' B v' (l ++ m) ∧ Below B w w' ∧ w.grownBy w' v.ownBlock := by
    have hnil : m = [] → ∃ v' w', (Builtin.append_ #[22, 22] o.type #[v, .slice none 0 cap]).run Tryz.prog w = .ok v' w' ∧ OwnI w' B v' (l ++ m) ∧ Below B w w' ∧ w.grownBy w' v.ownBlock := fun h0 => by
      subst h0
      exact ⟨v, w, hrun0 cap, by rw [List.append_nil]; exact hO, Below.refl _ _, ⟨rfl, rfl, rfl, Nat.le_refl _, fun _ _ _ => rfl⟩⟩
    cases A with
    | none =>
      have h0 : m = [] := by
        rcases hsrc with h0 | ⟨_, _, h0, _⟩
        · exact h0
        · cases h0
      rw [show m.length = 0 by rw [h0]; rfl]
      exact hnil h0
    | some ad =>
      obtain ⟨v', w', hr, h5, h6, _, _⟩ := run_append_own_at (P := Tryz.prog) w B 22 o.type 31 i _ 7 96 Tryz.underlying22 h1 h2 h3 h4 rfl (by omega) v l.length _ hO ad m.length cap _ (itL_len m) (fun j u hj => by
        rcases hsrc with h0 | ⟨b, off, h0, hc⟩
        · rw [h0] at hj; cases hj
        · cases h0
          rw [addr_off]
          exact hc j u hj) (itL_one m) (by unfold maxLen; omega) (by omega) hB
      refine ⟨v', w', hr, ?_, (Below.refl B w).grown h6 hB fun k hk => (World.ownsRow.lt hO k hk).1, h6⟩
      unfold OwnI
      rw [List.length_append, List.flatMap_append]
      exact h5
  obtain ⟨v', w', hrun, h5, h6, h7⟩ := key
  unfold Oper.wp execOp
  simp only [ho, resolve, invoke, builtin, Sem.run_bind, Sem.run_pure, Result.andThen_ok, List.map_toArray, List.map_cons, List.map_nil, hs, hx, hrun]
  exact h v' w' h5 h6 h7
theorem step_ai {w : World} {ops : Array Oper} {rest : List Oper} {o : Oper} {a : Act} {Q : Exit → Act → World → Prop} (hgd : Region.wanted o (yielded ops a.tmps) = true) (sl x : Operand)
    (ho : o.op = .call { callee := .builtin .append, args := #[sl, x], argTypes := #[22, 22] })
    (B : Nat) (v : Value) (l m : List Dg.It) (hs : a.eval sl = v) (hO : OwnI w B v l) (A : Option Addr) (n cap : Nat) (hx : a.eval x = .slice A n cap) (hn : m.length = n) (hsrc : SrcI w A m)
    (hlen : (l.length + n) * 96 ≤ 140737488355328) (hB : B ≤ w.heap.size)
    (h : ∀ v' w', OwnI w' B v' (l ++ m) → Below B w w' → w.grownBy w' v.ownBlock → wpList Tryz.prog ops Q rest (a.put o.dst v') w') : wpList Tryz.prog ops Q (o :: rest) a w :=
  wpList_wanted hgd fun _ hK => wp_ai sl x ho B v l m hs hO A n cap hx hn hsrc hlen hB fun v' w' h1 h2 h3 => hK _ _ (h v' w' h1 h2 h3)
end Go.Proofs.YtpldhempbdionaaGreatDoor
/- Two operations that may come up. No conditions but those that each theorem states. -/
namespace Go.Proofs.YtpldhempbdionaaGreatDoor
open Go Go.RowKit
section
variable {P : Program} {ops : Array Oper} {Q : Exit → Act → World → Prop} {md : Region.Mode} {S : World → Prop} {k : Nat}
end
end Go.Proofs.YtpldhempbdionaaGreatDoor
/- until of package code. No conditions but those that each theorem states. -/
namespace Go.Proofs.YtpldhempbdionaaGreatDoor
open Go Go.RowKit Go.Sort Go.Maps
/-- What is left of a text, in block ib. -/
def InAt (ib : Nat) (s : ByteArray) (X : World) : Prop := X.heap[ib]? = some (.cells #[.string s] 83 (0, 0))
theorem InAt.drew {ib : Nat} {s : ByteArray} {X : World} (h : InAt ib s X) : InAt ib s X.drew := iNext h (Below.refl _ _).drew
theorem InAt.below {ib : Nat} {s : ByteArray} {X X' : World} (h : InAt ib s X) (hb : Below X.heap.size X X') : InAt ib s X' := iNext h hb
set_option maxRecDepth 100000 in
set_option maxHeartbeats 8000000 in
theorem until_any (ib : Nat) (s : ByteArray) (hs : s.size ≤ 1000000) (C : ByteArray) (st : List UInt8) (hC : C.data.toList = st) (h1 : 1 ≤ st.length) (h2 : st.length ≤ 2) (ha : ∀ x ∈ st, x.toNat < 128) (w : World) (hr : InAt ib s w) :
    Calls Tryz.prog 58 #[.pointer (some ⟨ib, 0, none⟩), .string C] w fun e w' => e = .returned (.string (unt1 st s)) ∧ InAt ib (unt2 st s) w' ∧ Off [ib] w w' := by
  have hmx : Tryz.prog.follows .mixedOrders = true := by kernel_rfl
  have hc1 := iCells0 hr
  go_enter Tryz.func58, Tryz.ntmps58
  go_wp2_with fail
  refine (idxany_of s (by omega) C st hC h1 h2 ha w).mono ?_
  rintro e w1 ⟨rfl, hb⟩
  have hr1 := hr.below hb
  have ho1 : Off [ib] w w1 := Off.of_below hb
  clear hr hc1 hb hC h1 h2 ha
  have hc1 := iCells0 hr1
  rcases unt_ext st s with ⟨e1, e2, e3⟩ | ⟨k, e1, hk, e2, e3⟩
  · rw [e1]
    obtain ⟨K1, hK1, e4, hk1⟩ : ∃ K1 : Nat, min (IntKind.i64.wrap ((s.size : Int) + 1)) (s.size : Int) = (K1 : Int) ∧ unt2 st s = s.extract K1 s.size ∧ (K1 : Int) ≤ (s.size : Int) := ⟨s.size, by rw [IntWalk.i64_in _ (by omega)]; omega, by
      rw [e3]
      apply Dg.L_inj
      rw [Dg.L_extract, show (Dg.L s).take s.size = Dg.L s from List.take_of_length_le (Nat.le_of_eq (Dg.len_L s)), show (Dg.L s).drop s.size = [] from List.drop_eq_nil_of_le (Nat.le_of_eq (Dg.len_L s))]
      rfl, Int.le_refl _⟩
    have hk0 : (0 : Int) ≤ (K1 : Int) := by omega
    go_upto_region 5 with (fail)
    clear hc1
    refine wp_region_noPanic ?_
    refine wp_region_L (InAt ib s) 16 hmx ?_
    have hS2 := hr1.drew
    have ho2 := ho1.next (Below.refl w1.heap.size w1).drew
    clear hr1 ho1
    generalize w1.drew = w2 at *
    refine wpAnyL_take (i := 0) (f0 := 19) (v := ?_) rfl (by decide +kernel) (by decide +kernel) (by decide +kernel) (by decide +kernel) (by decide +kernel) (fun _ _ _ h => h) (Or.inl ⟨by rfl, ?_⟩) hS2 ?_
    rotate_left
    · intro wS hS; go_simp; (try with_reducible rfl)
    simp only [Act.put, List.getElem_toArray, List.getElem_cons_zero, List.setIfInBounds_toArray, List.set_cons_succ, List.set_cons_zero]
    refine wpAnyL_take (i := 1) (f0 := 19) (v := ?_) rfl (by decide +kernel) (by decide +kernel) (by decide +kernel) (by decide +kernel) (by decide +kernel) (fun _ _ _ h => h) (Or.inl ⟨by rfl, ?_⟩) hS2 ?_
    rotate_left
    · intro wS hS; go_simp; (try with_reducible rfl)
    simp only [Act.put, List.getElem_toArray, List.getElem_cons_succ, List.getElem_cons_zero, List.setIfInBounds_toArray, List.set_cons_succ, List.set_cons_zero]
    refine wpAnyL_take (i := 2) (f0 := 19) (v := ?_) rfl (by decide +kernel) (by decide +kernel) (by decide +kernel) (by decide +kernel) (by decide +kernel) (fun _ _ _ h => h) (Or.inl ⟨by rfl, ?_⟩) hS2 ?_
    rotate_left
    · intro wS hS; go_simp; (try with_reducible rfl)
    simp only [Act.put, List.getElem_toArray, List.getElem_cons_succ, List.getElem_cons_zero, List.setIfInBounds_toArray, List.set_cons_succ, List.set_cons_zero]
    refine wpAnyL_take (i := 3) (f0 := 19) (v := ?_) rfl (by decide +kernel) (by decide +kernel) (by decide +kernel) (by decide +kernel) (by decide +kernel) (fun _ _ _ h => h) (Or.inl ⟨by rfl, ?_⟩) hS2 ?_
    rotate_left
    · intro wS hS; go_simp; (try with_reducible rfl)
    simp only [Act.put, List.getElem_toArray, List.getElem_cons_succ, List.getElem_cons_zero, List.setIfInBounds_toArray, List.set_cons_succ, List.set_cons_zero]
    refine wpAnyL_take (i := 4) (f0 := 19) (v := ?_) rfl (by decide +kernel) (by decide +kernel) (by decide +kernel) (by decide +kernel) (by decide +kernel) (fun _ _ _ h => h) (Or.inl ⟨by rfl, ?_⟩) hS2 ?_
    rotate_left
    · intro wS hS; have c9 := iCells0 hS; go_simp; (try with_reducible rfl)
    simp only [Act.put, List.getElem_toArray, List.getElem_cons_succ, List.getElem_cons_zero, List.setIfInBounds_toArray, List.set_cons_succ, List.set_cons_zero]
    refine wpAnyL_take (i := 5) (f0 := 19) (v := ?_) rfl (by decide +kernel) (by decide +kernel) (by decide +kernel) (by decide +kernel) (by decide +kernel) (fun _ _ _ h => h) (Or.inl ⟨by rfl, ?_⟩) hS2 ?_
    rotate_left
    · intro wS hS; go_simp; (try with_reducible rfl)
    simp only [Act.put, List.getElem_toArray, List.getElem_cons_succ, List.getElem_cons_zero, List.setIfInBounds_toArray, List.set_cons_succ, List.set_cons_zero]
    refine wpAnyL_take (i := 6) (f0 := 19) (v := ?_) rfl (by decide +kernel) (by decide +kernel) (by decide +kernel) (by decide +kernel) (by decide +kernel) (fun _ _ _ h => h) (Or.inl ⟨by rfl, ?_⟩) hS2 ?_
    rotate_left
    · intro wS hS; go_simp; (try with_reducible rfl)
    simp only [Act.put, List.getElem_toArray, List.getElem_cons_succ, List.getElem_cons_zero, List.setIfInBounds_toArray, List.set_cons_succ, List.set_cons_zero]
    refine wpAnyL_take (i := 7) (f0 := 19) (v := ?_) rfl (by decide +kernel) (by decide +kernel) (by decide +kernel) (by decide +kernel) (by decide +kernel) (fun _ _ _ h => h) (Or.inl ⟨by rfl, ?_⟩) hS2 ?_
    rotate_left
    · intro wS hS; go_simp; (try with_reducible rfl)
    simp only [Act.put, List.getElem_toArray, List.getElem_cons_succ, List.getElem_cons_zero, List.setIfInBounds_toArray, List.set_cons_succ, List.set_cons_zero]
    refine wpAnyL_take (i := 8) (f0 := 19) (v := ?_) rfl (by decide +kernel) (by decide +kernel) (by decide +kernel) (by decide +kernel) (by decide +kernel) (fun _ _ _ h => h) (Or.inl ⟨by rfl, ?_⟩) hS2 ?_
    rotate_left
    · intro wS hS; go_simp; (try with_reducible rfl)
    simp only [Act.put, List.getElem_toArray, List.getElem_cons_succ, List.getElem_cons_zero, List.setIfInBounds_toArray, List.set_cons_succ, List.set_cons_zero]
    refine wpAnyL_take (i := 9) (f0 := 19) (v := ?_) rfl (by decide +kernel) (by decide +kernel) (by decide +kernel) (by decide +kernel) (by decide +kernel) (fun _ _ _ h => h) (Or.inl ⟨by rfl, ?_⟩) hS2 ?_
    rotate_left
    · intro wS hS; go_simp; (try with_reducible rfl)
    simp only [Act.put, List.getElem_toArray, List.getElem_cons_succ, List.getElem_cons_zero, List.setIfInBounds_toArray, List.set_cons_succ, List.set_cons_zero]
    refine wpAnyL_take (i := 10) (f0 := 19) (v := ?_) rfl (by decide +kernel) (by decide +kernel) (by decide +kernel) (by decide +kernel) (by decide +kernel) (fun _ _ _ h => h) (Or.inl ⟨by rfl, ?_⟩) hS2 ?_
    rotate_left
    · intro wS hS; have c9 := iCells0 hS; go_simp; (try with_reducible rfl)
    simp only [Act.put, List.getElem_toArray, List.getElem_cons_succ, List.getElem_cons_zero, List.setIfInBounds_toArray, List.set_cons_succ, List.set_cons_zero]
    refine wpAnyL_take (i := 11) (f0 := 19) (v := ?_) rfl (by decide +kernel) (by decide +kernel) (by decide +kernel) (by decide +kernel) (by decide +kernel) (fun _ _ _ h => h) (Or.inl ⟨by rfl, ?_⟩) hS2 ?_
    rotate_left
    · intro wS hS; go_simp; (try with_reducible rfl)
    simp only [Act.put, List.getElem_toArray, List.getElem_cons_succ, List.getElem_cons_zero, List.setIfInBounds_toArray, List.set_cons_succ, List.set_cons_zero]
    refine wpAnyL_take (i := 12) (f0 := 19) (v := ?_) rfl (by decide +kernel) (by decide +kernel) (by decide +kernel) (by decide +kernel) (by decide +kernel) (fun _ _ _ h => h) (Or.inl ⟨by rfl, ?_⟩) hS2 ?_
    rotate_left
    · intro wS hS; go_simp; (try with_reducible rfl)
    simp only [Act.put, List.getElem_toArray, List.getElem_cons_succ, List.getElem_cons_zero, List.setIfInBounds_toArray, List.set_cons_succ, List.set_cons_zero]
    refine wpAnyL_take (i := 13) (f0 := 19) (v := ?_) rfl (by decide +kernel) (by decide +kernel) (by decide +kernel) (by decide +kernel) (by decide +kernel) (fun _ _ _ h => h) (Or.inl ⟨by rfl, ?_⟩) hS2 ?_
    rotate_left
    · intro wS hS; go_simp; (try with_reducible rfl)
    simp only [Act.put, List.getElem_toArray, List.getElem_cons_succ, List.getElem_cons_zero, List.setIfInBounds_toArray, List.set_cons_succ, List.set_cons_zero]
    refine wpAnyL_take (i := 14) (f0 := 19) (v := ?_) rfl (by decide +kernel) (by decide +kernel) (by decide +kernel) (by decide +kernel) (by decide +kernel) (fun _ _ _ h => h) (Or.inl ⟨by rfl, ?_⟩) hS2 ?_
    rotate_left
    · intro wS hS; go_simp; (try with_reducible rfl)
    simp only [Act.put, List.getElem_toArray, List.getElem_cons_succ, List.getElem_cons_zero, List.setIfInBounds_toArray, List.set_cons_succ, List.set_cons_zero]
    refine wpAnyL_take (i := 15) (f0 := 19) (v := ?_) rfl (by decide +kernel) (by decide +kernel) (by decide +kernel) (by decide +kernel) (by decide +kernel) (fun _ _ _ h => h) (Or.inl ⟨by rfl, ?_⟩) hS2 ?_
    rotate_left
    · intro wS hS; go_simp; (try with_reducible rfl)
    simp only [Act.put, List.getElem_toArray, List.getElem_cons_succ, List.getElem_cons_zero, List.setIfInBounds_toArray, List.set_cons_succ, List.set_cons_zero]
    refine wpAnyL_one (i := 16) (by decide +kernel) (by rfl) (fun K hK => ?_)
    rw [if_pos (by rfl)]
    have c9 := iCells0 hS2
    have fz9 := frozen_of_row _ ib 0 _ _ hS2
    go_simp
    have hrf := setCell_row1 hS2 (.string (s.extract K1 s.size))
    have hof := ho2.setCell (p := ⟨ib, 0, none⟩) (List.mem_singleton.2 rfl) (.string (s.extract K1 s.size))
    refine hK.out _ _ (Or.inl (by decide +kernel)) ?_
    clear hK K
    try simp only [Act.put, List.getElem_toArray, List.getElem_cons_succ, List.getElem_cons_zero, List.setIfInBounds_toArray, List.set_cons_succ, List.set_cons_zero]
    refine wpAnyL_done (by decide +kernel) ?_ _
    refine NoPanic.normal ?_
    go_wp2
    go_ret
    refine ⟨by rw [e2]; rfl, ?_, hof⟩
    rw [e4]
    exact hrf
  · rw [e1]
    obtain ⟨K1, hK1, e4, hk1⟩ : ∃ K1 : Nat, min (IntKind.i64.wrap ((k : Int) + 1)) (s.size : Int) = (K1 : Int) ∧ unt2 st s = s.extract K1 s.size ∧ (K1 : Int) ≤ (s.size : Int) := ⟨k + 1, by rw [IntWalk.i64_in _ (by omega)]; omega, e3, by omega⟩
    have hk0 : (0 : Int) ≤ (K1 : Int) := by omega
    go_upto_region 5 with (fail)
    clear hc1
    refine wp_region_noPanic ?_
    refine wp_region_L (InAt ib s) 16 hmx ?_
    have hS2 := hr1.drew
    have ho2 := ho1.next (Below.refl w1.heap.size w1).drew
    clear hr1 ho1
    generalize w1.drew = w2 at *
    refine wpAnyL_take (i := 0) (f0 := 19) (v := ?_) rfl (by decide +kernel) (by decide +kernel) (by decide +kernel) (by decide +kernel) (by decide +kernel) (fun _ _ _ h => h) (Or.inl ⟨by rfl, ?_⟩) hS2 ?_
    rotate_left
    · intro wS hS; go_simp; (try with_reducible rfl)
    simp only [Act.put, List.getElem_toArray, List.getElem_cons_zero, List.setIfInBounds_toArray, List.set_cons_succ, List.set_cons_zero]
    refine wpAnyL_take (i := 1) (f0 := 19) (v := ?_) rfl (by decide +kernel) (by decide +kernel) (by decide +kernel) (by decide +kernel) (by decide +kernel) (fun _ _ _ h => h) (Or.inl ⟨by rfl, ?_⟩) hS2 ?_
    rotate_left
    · intro wS hS; go_simp; (try with_reducible rfl)
    simp only [Act.put, List.getElem_toArray, List.getElem_cons_succ, List.getElem_cons_zero, List.setIfInBounds_toArray, List.set_cons_succ, List.set_cons_zero]
    refine wpAnyL_take (i := 2) (f0 := 19) (v := ?_) rfl (by decide +kernel) (by decide +kernel) (by decide +kernel) (by decide +kernel) (by decide +kernel) (fun _ _ _ h => h) (Or.inl ⟨by rfl, ?_⟩) hS2 ?_
    rotate_left
    · intro wS hS; go_simp; (try with_reducible rfl)
    simp only [Act.put, List.getElem_toArray, List.getElem_cons_succ, List.getElem_cons_zero, List.setIfInBounds_toArray, List.set_cons_succ, List.set_cons_zero]
    refine wpAnyL_take (i := 3) (f0 := 19) (v := ?_) rfl (by decide +kernel) (by decide +kernel) (by decide +kernel) (by decide +kernel) (by decide +kernel) (fun _ _ _ h => h) (Or.inl ⟨by rfl, ?_⟩) hS2 ?_
    rotate_left
    · intro wS hS; go_simp; (try with_reducible rfl)
    simp only [Act.put, List.getElem_toArray, List.getElem_cons_succ, List.getElem_cons_zero, List.setIfInBounds_toArray, List.set_cons_succ, List.set_cons_zero]
    refine wpAnyL_take (i := 4) (f0 := 19) (v := ?_) rfl (by decide +kernel) (by decide +kernel) (by decide +kernel) (by decide +kernel) (by decide +kernel) (fun _ _ _ h => h) (Or.inl ⟨by rfl, ?_⟩) hS2 ?_
    rotate_left
    · intro wS hS; have c9 := iCells0 hS; go_simp; (try with_reducible rfl)
    simp only [Act.put, List.getElem_toArray, List.getElem_cons_succ, List.getElem_cons_zero, List.setIfInBounds_toArray, List.set_cons_succ, List.set_cons_zero]
    refine wpAnyL_take (i := 5) (f0 := 19) (v := ?_) rfl (by decide +kernel) (by decide +kernel) (by decide +kernel) (by decide +kernel) (by decide +kernel) (fun _ _ _ h => h) (Or.inl ⟨by rfl, ?_⟩) hS2 ?_
    rotate_left
    · intro wS hS; go_simp; (try with_reducible rfl)
    simp only [Act.put, List.getElem_toArray, List.getElem_cons_succ, List.getElem_cons_zero, List.setIfInBounds_toArray, List.set_cons_succ, List.set_cons_zero]
    refine wpAnyL_take (i := 6) (f0 := 19) (v := ?_) rfl (by decide +kernel) (by decide +kernel) (by decide +kernel) (by decide +kernel) (by decide +kernel) (fun _ _ _ h => h) (Or.inl ⟨by rfl, ?_⟩) hS2 ?_
    rotate_left
    · intro wS hS; go_simp; (try with_reducible rfl)
    simp only [Act.put, List.getElem_toArray, List.getElem_cons_succ, List.getElem_cons_zero, List.setIfInBounds_toArray, List.set_cons_succ, List.set_cons_zero]
    refine wpAnyL_take (i := 7) (f0 := 19) (v := ?_) rfl (by decide +kernel) (by decide +kernel) (by decide +kernel) (by decide +kernel) (by decide +kernel) (fun _ _ _ h => h) (Or.inl ⟨by rfl, ?_⟩) hS2 ?_
    rotate_left
    · intro wS hS; go_simp; (try with_reducible rfl)
    simp only [Act.put, List.getElem_toArray, List.getElem_cons_succ, List.getElem_cons_zero, List.setIfInBounds_toArray, List.set_cons_succ, List.set_cons_zero]
    refine wpAnyL_take (i := 8) (f0 := 19) (v := ?_) rfl (by decide +kernel) (by decide +kernel) (by decide +kernel) (by decide +kernel) (by decide +kernel) (fun _ _ _ h => h) (Or.inl ⟨by rfl, ?_⟩) hS2 ?_
    rotate_left
    · intro wS hS; go_simp; (try with_reducible rfl)
    simp only [Act.put, List.getElem_toArray, List.getElem_cons_succ, List.getElem_cons_zero, List.setIfInBounds_toArray, List.set_cons_succ, List.set_cons_zero]
    refine wpAnyL_take (i := 9) (f0 := 19) (v := ?_) rfl (by decide +kernel) (by decide +kernel) (by decide +kernel) (by decide +kernel) (by decide +kernel) (fun _ _ _ h => h) (Or.inl ⟨by rfl, ?_⟩) hS2 ?_
    rotate_left
    · intro wS hS; go_simp; (try with_reducible rfl)
    simp only [Act.put, List.getElem_toArray, List.getElem_cons_succ, List.getElem_cons_zero, List.setIfInBounds_toArray, List.set_cons_succ, List.set_cons_zero]
    refine wpAnyL_take (i := 10) (f0 := 19) (v := ?_) rfl (by decide +kernel) (by decide +kernel) (by decide +kernel) (by decide +kernel) (by decide +kernel) (fun _ _ _ h => h) (Or.inl ⟨by rfl, ?_⟩) hS2 ?_
    rotate_left
    · intro wS hS; have c9 := iCells0 hS; go_simp; (try with_reducible rfl)
    simp only [Act.put, List.getElem_toArray, List.getElem_cons_succ, List.getElem_cons_zero, List.setIfInBounds_toArray, List.set_cons_succ, List.set_cons_zero]
    refine wpAnyL_take (i := 11) (f0 := 19) (v := ?_) rfl (by decide +kernel) (by decide +kernel) (by decide +kernel) (by decide +kernel) (by decide +kernel) (fun _ _ _ h => h) (Or.inl ⟨by rfl, ?_⟩) hS2 ?_
    rotate_left
    · intro wS hS; go_simp; (try with_reducible rfl)
    simp only [Act.put, List.getElem_toArray, List.getElem_cons_succ, List.getElem_cons_zero, List.setIfInBounds_toArray, List.set_cons_succ, List.set_cons_zero]
    refine wpAnyL_take (i := 12) (f0 := 19) (v := ?_) rfl (by decide +kernel) (by decide +kernel) (by decide +kernel) (by decide +kernel) (by decide +kernel) (fun _ _ _ h => h) (Or.inl ⟨by rfl, ?_⟩) hS2 ?_
    rotate_left
    · intro wS hS; go_simp; (try with_reducible rfl)
    simp only [Act.put, List.getElem_toArray, List.getElem_cons_succ, List.getElem_cons_zero, List.setIfInBounds_toArray, List.set_cons_succ, List.set_cons_zero]
    refine wpAnyL_take (i := 13) (f0 := 19) (v := ?_) rfl (by decide +kernel) (by decide +kernel) (by decide +kernel) (by decide +kernel) (by decide +kernel) (fun _ _ _ h => h) (Or.inl ⟨by rfl, ?_⟩) hS2 ?_
    rotate_left
    · intro wS hS; go_simp; (try with_reducible rfl)
    simp only [Act.put, List.getElem_toArray, List.getElem_cons_succ, List.getElem_cons_zero, List.setIfInBounds_toArray, List.set_cons_succ, List.set_cons_zero]
    refine wpAnyL_take (i := 14) (f0 := 19) (v := ?_) rfl (by decide +kernel) (by decide +kernel) (by decide +kernel) (by decide +kernel) (by decide +kernel) (fun _ _ _ h => h) (Or.inl ⟨by rfl, ?_⟩) hS2 ?_
    rotate_left
    · intro wS hS; go_simp; (try with_reducible rfl)
    simp only [Act.put, List.getElem_toArray, List.getElem_cons_succ, List.getElem_cons_zero, List.setIfInBounds_toArray, List.set_cons_succ, List.set_cons_zero]
    refine wpAnyL_take (i := 15) (f0 := 19) (v := ?_) rfl (by decide +kernel) (by decide +kernel) (by decide +kernel) (by decide +kernel) (by decide +kernel) (fun _ _ _ h => h) (Or.inl ⟨by rfl, ?_⟩) hS2 ?_
    rotate_left
    · intro wS hS; go_simp; (try with_reducible rfl)
    simp only [Act.put, List.getElem_toArray, List.getElem_cons_succ, List.getElem_cons_zero, List.setIfInBounds_toArray, List.set_cons_succ, List.set_cons_zero]
    refine wpAnyL_one (i := 16) (by decide +kernel) (by rfl) (fun K hK => ?_)
    rw [if_pos (by rfl)]
    have c9 := iCells0 hS2
    have fz9 := frozen_of_row _ ib 0 _ _ hS2
    go_simp
    have hrf := setCell_row1 hS2 (.string (s.extract K1 s.size))
    have hof := ho2.setCell (p := ⟨ib, 0, none⟩) (List.mem_singleton.2 rfl) (.string (s.extract K1 s.size))
    refine hK.out _ _ (Or.inl (by decide +kernel)) ?_
    clear hK K
    try simp only [Act.put, List.getElem_toArray, List.getElem_cons_succ, List.getElem_cons_zero, List.setIfInBounds_toArray, List.set_cons_succ, List.set_cons_zero]
    refine wpAnyL_done (by decide +kernel) ?_ _
    refine NoPanic.normal ?_
    go_wp2
    go_ret
    refine ⟨by rw [e2]; rfl, ?_, hof⟩
    rw [e4]
    exact hrf
end Go.Proofs.YtpldhempbdionaaGreatDoor
/- sync.Once of one goroutine, after the guide's worked proof: the lock, the flag, the slow road with whatever function. No conditions but those that each theorem states. -/
namespace Go.Proofs.YtpldhempbdionaaGreatDoor
open Go Go.RowKit Go.Sort
theorem disable (w : World) : (callFunc 155 #[]).run Tryz.prog w = .ok (.value (.tuple #[])) w := run_call_mark0 Tryz.func155 (by kernel_rfl) (by kernel_rfl) (by kernel_rfl) .disable (by kernel_rfl) w
theorem enable (w : World) : (callFunc 157 #[]).run Tryz.prog w = .ok (.value (.tuple #[])) w := run_call_mark0 Tryz.func157 (by kernel_rfl) (by kernel_rfl) (by kernel_rfl) .enable (by kernel_rfl) w
theorem acquire (a : Addr) (w : World) : (callFunc 158 #[.pointer (some a)]).run Tryz.prog w = .ok (.value (.tuple #[])) w := run_call_marked Tryz.func158 (by kernel_rfl) (by kernel_rfl) (by kernel_rfl) .acquire (by kernel_rfl) a w
theorem releaseMerge (a : Addr) (w : World) : (callFunc 160 #[.pointer (some a)]).run Tryz.prog w = .ok (.value (.tuple #[])) w := run_call_marked Tryz.func160 (by kernel_rfl) (by kernel_rfl) (by kernel_rfl) .releaseMerge (by kernel_rfl) a w
theorem store_deferred (a : Addr) (x : Value) (u : FrameMode) (w : World) (hc : w.cell? a = some x) (hz : w.frozen? a = false) :
    CallsD Tryz.prog 135 #[.pointer (some a), .bool true] u w fun e u' w' => u' = u ∧ (e = .returned (.tuple #[]) ∧ w' = w.drew.setCell a (.int .u32 1)) := by
  have hc' : w.drew.cell? a = some x := by go_simp
  have hz' : w.drew.frozen? a = false := by go_simp
  have hst := run_call_store (P := Tryz.prog) Tryz.func147 (by kernel_rfl) (by kernel_rfl) (by kernel_rfl) (by kernel_rfl) (k := .u32) (y := 1) hc' hz'
  go_enter_d Tryz.func135, Tryz.ntmps135
  go_wp2
  go_region_calls
  all_goals (go_end0; exact ⟨rfl, rfl⟩)
set_option maxRecDepth 100000 in
set_option maxHeartbeats 1600000 in
theorem unlock_deferred (a : Addr) (u : FrameMode) (w : World) (hc : w.cell? a = some (.int .i32 1)) (hz : w.frozen? a = false) :
    CallsD Tryz.prog 134 #[.pointer (some a)] u w fun e u' w' => u' = u ∧ (e = .returned (.tuple #[]) ∧ w' = w.setCell a (.int .i32 0)) := by
  have hd := disable
  have he := enable
  have hr := releaseMerge
  have hadd := run_call_add (P := Tryz.prog) Tryz.func161 (by kernel_rfl) (by kernel_rfl) (by kernel_rfl) .i32 (by kernel_rfl) (y := -1) (s := 0) hc hz (by simp [go_sem]; rfl)
  have hcv := run_convert_to_unsafe (P := Tryz.prog) (src := 190) (dst := 132) Tryz.underlying190 Tryz.underlying132 (by kernel_rfl) hc
  go_enter_d Tryz.func134, Tryz.ntmps134
  go_wp2
  go_end0
  go_wp2
  go_end0
  exact ⟨rfl, rfl⟩
set_option maxRecDepth 100000 in
set_option maxHeartbeats 1600000 in
theorem lock_free (a : Addr) (w : World) (hc : w.cell? a = some (.int .i32 0)) (hz : w.frozen? a = false) :
    Calls Tryz.prog 133 #[.pointer (some a)] w fun e w' => e = .returned (.tuple #[]) ∧ w' = w.setCell a (.int .i32 1) := by
  have hd := disable
  have he := enable
  have ha := acquire
  have hcas := run_call_cas_hit (P := Tryz.prog) Tryz.func156 (by kernel_rfl) (by kernel_rfl) (by kernel_rfl) .i32 (by kernel_rfl) (y := 1) hc hz
  have hc' : (w.setCell a (.int .i32 1)).cell? a = some (.int .i32 1) := World.cell?_setCell_same w a _ hc
  have hcv := run_convert_to_unsafe (P := Tryz.prog) (src := 190) (dst := 132) Tryz.underlying190 Tryz.underlying132 (by kernel_rfl) hc'
  go_enter Tryz.func133, Tryz.ntmps133
  go_wp2
  first | go_end0 | (simp only [Exit.inBlock, Exit.then]; refine bodyPost_ret (results_none rfl _ _ _) rfl ?_) | refine bodyPost_ret (results_none rfl _ _ _) rfl ?_
  go_wp2
  go_end0
  exact ⟨rfl, rfl⟩
theorem iCells5 {w : World} {g : Nat} {a0 a1 a2 a3 a4 : Value} {T : TypeId} (h : w.heap[g]? = some (.cells #[a0, a1, a2, a3, a4] T (0, 0))) :
    w.cell? ⟨g, 0, none⟩ = some a0 ∧ w.cell? ⟨g, 1, none⟩ = some a1 ∧ w.cell? ⟨g, 2, none⟩ = some a2 ∧ w.cell? ⟨g, 3, none⟩ = some a3 ∧ w.cell? ⟨g, 4, none⟩ = some a4 := by
  refine ⟨?_, ?_, ?_, ?_, ?_⟩ <;> (rw [cell_of_row _ _ _ _ _ (0, 0) h]; rfl)
theorem setCell_rowN {w : World} {g : Nat} {cs : Array Value} {T : TypeId} (h : w.heap[g]? = some (.cells cs T (0, 0))) (j : Nat) (u : Value) : (w.setCell ⟨g, j, none⟩ u).heap[g]? = some (.cells (cs.setIfInBounds j u) T (0, 0)) := by
  simp only [World.setCell, Array.getElem?_modify, h]
  simp
set_option maxRecDepth 100000 in
set_option maxHeartbeats 1600000 in
theorem slow_of (b : Nat) (T : TypeId) (sm r old : Value) (w : World) (hrow : w.heap[b]? = some (.cells #[.int .u32 0, .int .i32 0, sm, r, old] T (0, 0))) (P : World → Prop)
    (hf : Calls Tryz.prog 102 #[.pointer (some ⟨b, 0, none⟩)] (w.setCell ⟨b, 1, none⟩ (.int .i32 1)) fun e w' => e = .returned (.tuple #[]) ∧ P w' ∧ ∃ r' old', w'.heap[b]? = some (.cells #[.int .u32 0, .int .i32 1, sm, r', old'] T (0, 0))) :
    Calls Tryz.prog 117 #[.pointer (some ⟨b, 0, none⟩), .func (.func 102) #[.pointer (some ⟨b, 0, none⟩)] #[]] w fun e w' => e = .returned (.tuple #[]) ∧ ∃ w2, P w2 ∧ w' = (w2.drew.setCell ⟨b, 0, none⟩ (.int .u32 1)).setCell ⟨b, 1, none⟩ (.int .i32 0) := by
  have hrow1 : (w.setCell ⟨b, 1, none⟩ (.int .i32 1)).heap[b]? = some (.cells #[.int .u32 0, .int .i32 1, sm, r, old] T (0, 0)) := setCell_rowN hrow 1 _
  obtain ⟨c0, c1, c2, c3, c4⟩ := iCells5 hrow
  obtain ⟨d0, d1, d2, d3, d4⟩ := iCells5 hrow1
  have z1 := frozen_of_row _ b 1 _ _ hrow
  have hl := run_call_load (P := Tryz.prog) Tryz.func132 (by kernel_rfl) (by kernel_rfl) (by kernel_rfl) .u32 (by kernel_rfl) (w := w.setCell ⟨b, 1, none⟩ (.int .i32 1)) (a := ⟨b, 0, none⟩) (x := 0) d0
  have hnot : ∀ (x : Bool) (w : World), (Op.unary .not (.bool x)).run Tryz.prog w = .ok (.bool (!x)) w := fun _ _ => rfl
  go_enter_defers Tryz.func117, Tryz.ntmps117
  go_wp2_with (go_at_call 133; refine (lock_free ⟨b, 1, none⟩ _ c1 z1).mono ?_; rintro e w' ⟨rfl, rfl⟩)
  have HF := hide hf
  clear hf c0 c1 c2 c3 c4 d1 d2 d3 d4 z1 hrow
  go_wp2_with (first | (go_at_call 102; refine HF.out.mono ?_; rintro e w2 ⟨rfl, hp2, r', old', hrow2⟩) | (go_at_call 116; go_in))
  obtain ⟨e0, e1, e2, e3, e4⟩ := iCells5 hrow2
  have f0 := frozen_of_row _ b 0 _ _ hrow2
  have f1 := frozen_of_row _ b 1 _ _ hrow2
  refine leaves_cons (f := 135) (args := #[.pointer (some ⟨b, 0, none⟩), .bool true]) (by simp) (by simp [go_sem]) ?_
  refine (store_deferred ⟨b, 0, none⟩ (.int .u32 0) .returning _ e0 f0).mono ?_
  rintro e u' w'' ⟨rfl, rfl, rfl⟩
  have hrow3 : (w2.drew.setCell ⟨b, 0, none⟩ (.int .u32 1)).heap[b]? = some (.cells #[.int .u32 1, .int .i32 1, sm, r', old'] T (0, 0)) := setCell_rowN (w := w2.drew) hrow2 0 _
  refine leaves_cons (f := 134) (args := #[.pointer (some ⟨b, 1, none⟩)]) (by simp [settle]) (by simp [go_sem]) ?_
  refine (unlock_deferred ⟨b, 1, none⟩ _ _ (iCells5 hrow3).2.1 (frozen_of_row _ b 1 _ _ hrow3)).mono ?_
  rintro e u' w'' ⟨rfl, rfl, rfl⟩
  simp [Leaves, settle, results, Tryz.results117]
  exact ⟨w2, hp2, rfl⟩
set_option maxRecDepth 100000 in
set_option maxHeartbeats 1600000 in
theorem once_of (b : Nat) (T : TypeId) (sm r old : Value) (w : World) (hrow : w.heap[b]? = some (.cells #[.int .u32 0, .int .i32 0, sm, r, old] T (0, 0))) (P : World → Prop)
    (hf : Calls Tryz.prog 102 #[.pointer (some ⟨b, 0, none⟩)] (w.setCell ⟨b, 1, none⟩ (.int .i32 1)) fun e w' => e = .returned (.tuple #[]) ∧ P w' ∧ ∃ r' old', w'.heap[b]? = some (.cells #[.int .u32 0, .int .i32 1, sm, r', old'] T (0, 0))) :
    Calls Tryz.prog 101 #[.pointer (some ⟨b, 0, none⟩), .func (.func 102) #[.pointer (some ⟨b, 0, none⟩)] #[]] w fun e w' => e = .returned (.tuple #[]) ∧ ∃ w2, P w2 ∧ w' = (w2.drew.setCell ⟨b, 0, none⟩ (.int .u32 1)).setCell ⟨b, 1, none⟩ (.int .i32 0) := by
  obtain ⟨c0, _⟩ := iCells5 hrow
  have hl := run_call_load (P := Tryz.prog) Tryz.func132 (by kernel_rfl) (by kernel_rfl) (by kernel_rfl) .u32 (by kernel_rfl) c0
  have hnot : ∀ (x : Bool) (w : World), (Op.unary .not (.bool x)).run Tryz.prog w = .ok (.bool (!x)) w := fun _ _ => rfl
  have HF := hide hf
  have HR := hide hrow
  clear hf hrow
  go_enter Tryz.func101, Tryz.ntmps101
  go_wp2_with (first | (go_at_call 117; refine (slow_of b T sm r old _ HR.out P HF.out).mono ?_; rintro e w' ⟨rfl, hw2⟩) | (go_at_call 116; go_in))
  go_end0
  exact ⟨rfl, hw2⟩
end Go.Proofs.YtpldhempbdionaaGreatDoor
/- strings.NewReplacer at three bytes and its build. No conditions but those that each theorem states. -/
namespace Go.Proofs.YtpldhempbdionaaGreatDoor
open Go Go.RowKit Go.Sort Go.Maps
/-- What is replaced, and by what. -/
def six : List ByteArray := [⟨#[92]⟩, ⟨#[92, 92]⟩, ⟨#[34]⟩, ⟨#[92, 34]⟩, ⟨#[10]⟩, ⟨#[92, 110]⟩]
set_option maxRecDepth 100000 in
set_option maxHeartbeats 4000000 in
theorem newrep_any (A : Option Addr) (c : Nat) (w : World) (hS : Strs w w.heap.size A six) :
    Calls Tryz.prog 82 #[.slice A 6 c] w fun e w' => ∃ b A' c', e = .returned (.pointer (some ⟨b, 0, none⟩)) ∧ w'.heap[b]? = some (.cells #[.int .u32 0, .int .i32 0, .int .u32 0, .nilIface, .slice A' 6 c'] 130 (0, 0)) ∧ OwnS w' w.heap.size (.slice A' 6 c') six ∧ (∀ g, (Value.slice A' 6 c').ownBlock = some g → g < b) ∧ w.heap.size ≤ b ∧ Below w.heap.size w w' := by
  have hlen : six.length = 6 := rfl
  go_enter Tryz.func82, Tryz.ntmps82
  go_upto_region 3 with (fail)
  obtain ⟨bk, off, rfl, hbk, hc⟩ := hS.at_ (by rw [hlen]; omega)
  have hO := OwnS.nil w w.heap.size
  go_wp2_with (at_builtin; refine step_ag rfl (.const (.slice none 0 0)) (.tmp 8) rfl w.heap.size (.slice none 0 0) [] six rfl hO ⟨bk, off, none⟩ 6 c rfl rfl (fun j s hj => by rw [addr_off]; exact hc j s hj) (by show 0 + 6 ≤ _; omega) (Nat.le_refl _) ?_; intro v8 u8 hO8 hg8 hat8; rw [List.nil_append] at hO8; obtain ⟨A8, c8, e8, _, _⟩ := hO8.strs; rw [hlen] at e8; subst e8)
  go_ret
  have hb8 : Below w.heap.size w u8 := (Below.refl _ _).grown hg8 (Nat.le_refl _) (fun k hk => by cases hk)
  have hx := Below.news (Below.refl u8.heap.size u8) (.cells #[.int .u32 0, .int .i32 0, .int .u32 0, .nilIface, .slice A8 6 c8] 130)
  exact ⟨u8.heap.size, A8, c8, rfl, heap_alloc_new u8 _, OwnS.below hO8 hx, fun g hg => (OwnV.lt hO8 hg).2, hb8.size, hb8.trans (hx.mono hb8.size)⟩
theorem zero_tab : Tryz.zeroCells167 = Array.replicate 257 (.slice none 0 0) := by kernel_rfl
/-- The row of a byteStringReplacer: what each byte is replaced by, and the bytes to replace. -/
def rowOf (f : Nat → Value) (tr : Value) : Array Value := ((List.range 256).map f ++ [tr]).toArray
theorem rowOf_size (f : Nat → Value) (tr : Value) : (rowOf f tr).size = 257 := by simp [rowOf]
theorem rowOf_at (f : Nat → Value) (tr : Value) {c : Nat} (h : c < 256) : (rowOf f tr)[c]? = some (f c) := by
  unfold rowOf
  rw [List.getElem?_toArray, List.getElem?_append_left (by simp; omega), List.getElem?_map, List.getElem?_range h]
  rfl
theorem rowOf_last (f : Nat → Value) (tr : Value) : (rowOf f tr)[256]? = some tr := by
  unfold rowOf
  rw [List.getElem?_toArray, List.getElem?_append_right (by simp)]
  simp
theorem rowOf_set (f : Nat → Value) (tr v : Value) {c : Nat} (h : c < 256) : (rowOf f tr).setIfInBounds c v = rowOf (fun j => if j = c then v else f j) tr := by
  apply Array.ext_getElem?
  intro j
  rw [Array.getElem?_setIfInBounds]
  by_cases e : c = j
  · subst e
    rw [if_pos rfl, if_pos (by rw [rowOf_size]; omega), rowOf_at _ _ h, if_pos rfl]
  · rw [if_neg e]
    rcases Nat.lt_trichotomy j 256 with h1 | h1 | h1
    · rw [rowOf_at _ _ h1, rowOf_at _ _ h1, if_neg (fun e2 => e e2.symm)]
    · subst h1; rw [rowOf_last, rowOf_last]
    · rw [Array.getElem?_eq_none (by rw [rowOf_size]; omega), Array.getElem?_eq_none (by rw [rowOf_size]; omega)]
theorem rowOf_setLast (f : Nat → Value) (tr v : Value) : (rowOf f tr).setIfInBounds 256 v = rowOf f v := by
  apply Array.ext_getElem?
  intro j
  rw [Array.getElem?_setIfInBounds]
  rcases Nat.lt_trichotomy j 256 with h1 | h1 | h1
  · rw [if_neg (by omega), rowOf_at _ _ h1, rowOf_at _ _ h1]
  · subst h1; rw [if_pos rfl, if_pos (by rw [rowOf_size]; omega), rowOf_last]
  · rw [if_neg (by omega), Array.getElem?_eq_none (by rw [rowOf_size]; omega), Array.getElem?_eq_none (by rw [rowOf_size]; omega)]
theorem store_tab (w1 : World) (tr : Value) (h1 : tr.oneCell' = true) : ∃ w2, (storeCells ⟨w1.heap.size, 0, none⟩ (Tryz.zeroCells167.toList.set 256 tr)).run Tryz.prog (w1.alloc (.cells Tryz.zeroCells167 167)) = .ok () w2 ∧ w2.heap[w1.heap.size]? = some (.cells (rowOf (fun _ => .slice none 0 0) tr) 167 (0, 0)) ∧ Below w1.heap.size w1 w2 := by
  have hl : (Tryz.zeroCells167.toList.set 256 tr) = (List.range 256).map (fun _ => Value.slice none 0 0) ++ [tr] := by
    rw [zero_tab]
    apply List.ext_getElem?
    intro j
    rw [List.getElem?_set]
    simp only [Array.toList_replicate, List.length_replicate, List.getElem?_replicate]
    rcases Nat.lt_trichotomy j 256 with h1 | h1 | h1
    · rw [if_neg (by omega), if_pos (by omega), List.getElem?_append_left (by simp; omega), List.getElem?_map, List.getElem?_range h1]; rfl
    · subst h1; simp
    · rw [if_neg (by omega), if_neg (by omega), List.getElem?_eq_none (by simp; omega)]
  have hrow := heap_alloc_new w1 (.cells Tryz.zeroCells167 167)
  have hst := run_storeCells_at (P := Tryz.prog) w1.heap.size 0 167 (Tryz.zeroCells167.toList.set 256 tr) 0 Tryz.zeroCells167 _ hrow (by simp) (fun v hv => by
    rw [hl] at hv
    rcases List.mem_append.1 hv with h | h
    · obtain ⟨_, _, rfl⟩ := List.mem_map.1 h; rfl
    · rw [List.mem_singleton.1 h]; exact h1)
  refine ⟨_, hst, ?_, ?_⟩
  · rw [setRow_heap _ _ _ _ _ _ hrow]
    refine congrArg (fun z => some (Obj.cells z 167 (0, 0))) ?_
    rw [hl]
    unfold rowOf
    rw [Nat.add_zero, List.take_zero, List.nil_append, List.drop_eq_nil_of_le (by rw [zero_tab, List.length_append, List.length_map, List.length_range, List.length_singleton, Array.length_toList, Array.size_replicate]; omega), List.append_nil]
  · exact below_setRow (Below.news (Below.refl w1.heap.size w1) _) (Nat.le_refl _) _
/-- The bytes in the order in which they are laid, and what each stands for behind its backslash. -/
def keyL : List Nat := [10, 34, 92]
def escN (c : Nat) : Nat := if c = 10 then 110 else c
/-- A byteStringReplacer with its first m bytes laid. -/
def RepAt (n0 g m : Nat) (W : World) : Prop := ∃ f tr, W.heap[g]? = some (.cells (rowOf f tr) 167 (0, 0)) ∧ (∀ c, c < 256 → c ∉ keyL.take m → f c = .slice none 0 0) ∧
  (∀ c, c ∈ keyL.take m → ∃ B cap cs fr, f c = .slice (some ⟨B, 0, none⟩) 2 cap ∧ n0 ≤ B ∧ W.heap[B]? = some (.cells cs 5 fr) ∧ cs[0]? = some (.int .u8 92) ∧ cs[1]? = some (.int .u8 (escN c))) ∧
  OwnS W n0 tr ((keyL.take m).map fun c => ⟨#[c.toUInt8]⟩)
theorem own_type {w : World} {B g : Nat} {v : Value} {l : List ByteArray} (h : OwnS w B v l) (hv : v.ownBlock = some g) : ∃ cs, w.heap[g]? = some (.cells cs 9 (0, 0)) := by
  obtain ⟨_, h2⟩ := h
  rcases h2 with ⟨rfl, _⟩ | ⟨g', cap, cur, rfl, _, hh, _⟩
  · cases hv
  · cases hv; exact ⟨cur, hh⟩
theorem ne_type {w : World} {g g' : Nat} {c1 c2 : Array Value} {T1 T2 : TypeId} {f1 f2 : Nat × Nat} (h1 : w.heap[g]? = some (.cells c1 T1 f1)) (h2 : w.heap[g']? = some (.cells c2 T2 f2)) (hT : T1 ≠ T2) : g ≠ g' := fun e => by
  subst e
  rw [h1] at h2
  injection h2 with h2
  injection h2 with _ h2
  exact hT h2
theorem bytesRow_two (a b : UInt8) (cap : Nat) : (bytesRow ⟨#[a, b]⟩ cap)[0]? = some (.int .u8 (a.toNat : Int)) ∧ (bytesRow ⟨#[a, b]⟩ cap)[1]? = some (.int .u8 (b.toNat : Int)) := by
  unfold bytesRow
  constructor
  · rw [Array.getElem?_append_left (by simp)]; simp
  · rw [Array.getElem?_append_left (by simp)]; simp
theorem rep_row8 {n0 g : Nat} {wr wB u8 : World} {f : Nat → Value} {tr : Value} {L : List ByteArray} (hrw : wr.heap[g]? = some (.cells (rowOf f tr) 167 (0, 0))) (hO : OwnS wr n0 tr L) (hx : Below wr.heap.size wr wB) (hg8 : wB.grownBy u8 tr.ownBlock) : u8.heap[g]? = some (.cells (rowOf f tr) 167 (0, 0)) :=
  (hg8.block g (Nat.lt_of_lt_of_le (lt_of_block hrw) hx.size) (fun e => by
    obtain ⟨c2, h2⟩ := own_type hO e.symm
    exact ne_type hrw h2 (by decide) rfl)).trans (iNext hrw hx)
theorem rep_step {n0 g m : Nat} {wr wB u8 : World} {f : Nat → Value} {tr tr' : Value} {cc : Nat} (hcc : cc < 256) (hm : keyL[m]? = some cc)
    (hrw : wr.heap[g]? = some (.cells (rowOf f tr) 167 (0, 0))) (hf0 : ∀ c, c < 256 → c ∉ keyL.take m → f c = .slice none 0 0)
    (hf1 : ∀ c, c ∈ keyL.take m → ∃ B cap cs fr, f c = .slice (some ⟨B, 0, none⟩) 2 cap ∧ n0 ≤ B ∧ wr.heap[B]? = some (.cells cs 5 fr) ∧ cs[0]? = some (.int .u8 92) ∧ cs[1]? = some (.int .u8 (escN c)))
    (hO : OwnS wr n0 tr ((keyL.take m).map fun c => ⟨#[c.toUInt8]⟩)) (hn : n0 ≤ g) (hx : Below wr.heap.size wr wB) (hg8 : wB.grownBy u8 tr.ownBlock) (hO8 : OwnS u8 n0 tr' ((keyL.take m).map (fun c => (⟨#[c.toUInt8]⟩ : ByteArray)) ++ [⟨#[cc.toUInt8]⟩]))
    (cs : Array Value) (fr : Nat × Nat) (cap : Nat) (h0 : cs[0]? = some (.int .u8 92)) (h1 : cs[1]? = some (.int .u8 (escN cc))) :
    RepAt n0 g (m + 1) ((((u8.setCell ⟨g, 256, none⟩ tr').drew).alloc (.cells cs 5 fr)).setCell ⟨g, cc, none⟩ (.slice (some ⟨u8.heap.size, 0, none⟩) 2 cap)) ∧ Below n0 wr ((((u8.setCell ⟨g, 256, none⟩ tr').drew).alloc (.cells cs 5 fr)).setCell ⟨g, cc, none⟩ (.slice (some ⟨u8.heap.size, 0, none⟩) 2 cap)) := by
  have hT1 : 167 ≠ 9 := by decide
  have hT2 : 5 ≠ 9 := by decide
  have hT3 : 5 ≠ 167 := by decide
  have hgt : ∀ b, tr.ownBlock = some b → g ≠ b := fun b e => by
    obtain ⟨c2, h2⟩ := own_type hO e
    exact ne_type hrw h2 hT1
  have hglt := lt_of_block hrw
  have hrw8 : u8.heap[g]? = some (.cells (rowOf f tr) 167 (0, 0)) := (hg8.block g (Nat.lt_of_lt_of_le hglt hx.size) (fun e => hgt g e.symm rfl)).trans (iNext hrw hx)
  have hgl8 := lt_of_block hrw8
  have hr1 := setCell_rowN hrw8 256 tr'
  rw [rowOf_setLast] at hr1
  have hx2 : Below (u8.setCell ⟨g, 256, none⟩ tr').heap.size (u8.setCell ⟨g, 256, none⟩ tr') (((u8.setCell ⟨g, 256, none⟩ tr').drew).alloc (.cells cs 5 fr)) := (Below.refl (u8.setCell ⟨g, 256, none⟩ tr').heap.size (u8.setCell ⟨g, 256, none⟩ tr')).drew.alloc (Nat.le_refl (u8.setCell ⟨g, 256, none⟩ tr').heap.size) _
  have hs1 : (u8.setCell ⟨g, 256, none⟩ tr').heap.size = u8.heap.size := by simp [World.setCell]
  have hr2 := iNext hr1 hx2
  have hr3 := setCell_rowN hr2 cc (.slice (some ⟨u8.heap.size, 0, none⟩) 2 cap)
  rw [rowOf_set _ _ _ hcc] at hr3
  have hnew : (((u8.setCell ⟨g, 256, none⟩ tr').drew).alloc (.cells cs 5 fr)).heap[u8.heap.size]? = some (.cells cs 5 fr) := by
    have h9 := heap_alloc_new (u8.setCell ⟨g, 256, none⟩ tr').drew (.cells cs 5 fr)
    rw [show (u8.setCell ⟨g, 256, none⟩ tr').drew.heap.size = u8.heap.size from hs1] at h9
    exact h9
  have hset : ∀ (b : Nat) (o : Obj), b ≠ g → u8.heap[b]? = some o → ((((u8.setCell ⟨g, 256, none⟩ tr').drew).alloc (.cells cs 5 fr)).setCell ⟨g, cc, none⟩ (.slice (some ⟨u8.heap.size, 0, none⟩) 2 cap)).heap[b]? = some o := fun b o hb h => by
    rw [Below.heap_setCell _ _ _ _ (show b ≠ (⟨g, cc, none⟩ : Addr).block from hb)]
    refine iNext ?_ hx2
    rw [Below.heap_setCell _ _ _ _ (show b ≠ (⟨g, 256, none⟩ : Addr).block from hb)]
    exact h
  have hmem : keyL.take (m + 1) = keyL.take m ++ [cc] := by
    obtain ⟨hlt, e⟩ := List.getElem?_eq_some_iff.1 hm
    rw [List.take_succ_eq_append_getElem hlt, e]
  refine ⟨⟨_, tr', hr3, fun c h2 h3 => ?_, fun c h2 => ?_, ?_⟩, ?_⟩
  · rw [hmem] at h3
    have e1 : c ≠ cc := fun e => h3 (by rw [e]; simp)
    rw [if_neg e1]
    exact hf0 c h2 (fun h4 => h3 (List.mem_append.2 (Or.inl h4)))
  · by_cases e1 : c = cc
    · rw [if_pos e1]
      subst e1
      refine ⟨u8.heap.size, cap, cs, fr, rfl, by have := hx.size; have := hg8.size; omega, ?_, h0, h1⟩
      rw [Below.heap_setCell _ _ _ _ (show u8.heap.size ≠ (⟨g, c, none⟩ : Addr).block from by show u8.heap.size ≠ g; omega)]
      exact hnew
    · rw [if_neg e1]
      rw [hmem] at h2
      rcases List.mem_append.1 h2 with h3 | h3
      · obtain ⟨B, cp, c2, f2, q1, q2, q3, q4, q5⟩ := hf1 c h3
        refine ⟨B, cp, c2, f2, q1, q2, hset B _ (fun e => ne_type q3 hrw hT3 e) ?_, q4, q5⟩
        refine (hg8.block B (Nat.lt_of_lt_of_le (lt_of_block q3) hx.size) (fun e => ?_)).trans (iNext q3 hx)
        obtain ⟨c9, h9⟩ := own_type hO e.symm
        exact ne_type q3 h9 hT2 rfl
      · exact absurd (List.mem_singleton.1 h3) e1
  · have e2 : (keyL.take (m + 1)).map (fun c => (⟨#[c.toUInt8]⟩ : ByteArray)) = (keyL.take m).map (fun c => (⟨#[c.toUInt8]⟩ : ByteArray)) ++ [⟨#[cc.toUInt8]⟩] := by rw [hmem, List.map_append]; rfl
    rw [e2]
    refine OwnV.same hO8 fun b hb => ?_
    obtain ⟨c9, h9⟩ := own_type hO8 hb
    rw [hset b _ (fun e => ne_type hrw8 h9 hT1 e.symm) h9, h9]
  · refine ((((hx.mono (by omega)).grown (B := n0) hg8 (by have := hx.size; omega) (fun b e => (OwnV.lt hO e).1)).setCell (p := ⟨g, 256, none⟩) hn tr').drew.alloc ?_ _).setCell (p := ⟨g, cc, none⟩) hn _
    show n0 ≤ (u8.setCell ⟨g, 256, none⟩ tr').heap.size
    rw [hs1]
    omega
set_option maxRecDepth 100000 in
set_option maxHeartbeats 4000000 in
theorem build_any (b : Nat) (A : Option Addr) (c : Nat) (x0 x1 x2 x3 : Value) (w : World) (hrow : w.heap[b]? = some (.cells #[x0, x1, x2, x3, .slice A 6 c] 130 (0, 0))) (hS : Strs w w.heap.size A six) :
    Calls Tryz.prog 118 #[.pointer (some ⟨b, 0, none⟩)] w fun e w' => ∃ g, e = .returned (.iface 168 (.pointer (some ⟨g, 0, none⟩))) ∧ w.heap.size ≤ g ∧ RepAt w.heap.size g 3 w' ∧ Below w.heap.size w w' := by
  have hlen : six.length = 6 := rfl
  obtain ⟨d0, d1, d2, d3, d4⟩ := iCells5 hrow
  obtain ⟨bk, off, rfl, hbk, hc⟩ := hS.at_ (by rw [hlen]; omega)
  have s0 : w.cell? ⟨bk, off, none⟩ = some (.string ⟨#[92]⟩) := hc 0 _ rfl
  have s1 : w.cell? ⟨bk, off + 1, none⟩ = some (.string ⟨#[92, 92]⟩) := hc 1 _ rfl
  have s2 : w.cell? ⟨bk, off + 2, none⟩ = some (.string ⟨#[34]⟩) := hc 2 _ rfl
  have s3 : w.cell? ⟨bk, off + 3, none⟩ = some (.string ⟨#[92, 34]⟩) := hc 3 _ rfl
  have s4 : w.cell? ⟨bk, off + 4, none⟩ = some (.string ⟨#[10]⟩) := hc 4 _ rfl
  have s5 : w.cell? ⟨bk, off + 5, none⟩ = some (.string ⟨#[92, 110]⟩) := hc 5 _ rfl
  obtain ⟨ti, ti1, ti2, ti3, ti4⟩ := info_parts strInfo
  obtain ⟨w1, hmk, hO1, hg1⟩ := run_make_own (P := Tryz.prog) w w.heap.size 28 9 ti (.string ⟨#[]⟩) 1 Tryz.underlying28 ti1 ti2 ti3 .i64 .i64 3 (by rw [ti4]; decide) (by decide) (Nat.le_refl _)
  replace hmk : (Instr.makeSlice 28 (.int .i64 0) (.int .i64 3)).run Tryz.prog w = .ok (.slice (some ⟨w.heap.size, 0, none⟩) 0 3) w1 := hmk
  have hnil : ∀ (w : World) (a : Option Addr) (l c : Nat), (binOp .eql 56 (.slice a l c) (.slice none 0 0)).run Tryz.prog w = .ok (.bool a.isNone) w := fun w a l c => Lib.run_eql_slice_nil w _ _ a l c 0 0 Tryz.underlying56
  obtain ⟨w2, hst2, hrow2, hb2⟩ := store_tab w1 (.slice (some ⟨w.heap.size, 0, none⟩) 0 3) rfl
  have hb1 : Below w.heap.size w w1 := grown_belowN hg1
  have hbb := bnext hb1 hb2
  go_enter Tryz.func118, Tryz.ntmps118
  go_upto_region 6 with (fail)
  go_loop [4, 5] (fun av iv => (av = .bool true ∧ iv = .int .i64 0) ∨ (av = .bool false ∧ (iv = .int .i64 2 ∨ iv = .int .i64 4 ∨ iv = .int .i64 6))) (fun _ iv => 6 - (intOf iv).toNat)
  case atStart => exact Or.inl ⟨rfl, rfl⟩
  case round =>
    rcases hrel with ⟨rfl, rfl⟩ | ⟨rfl, rfl | rfl | rfl⟩
    · go_wp2
      go_round
      case rel => exact Or.inr ⟨rfl, Or.inl rfl⟩
      case measure => decide
    · go_wp2
      go_round
      case rel => exact Or.inr ⟨rfl, Or.inr (Or.inl rfl)⟩
      case measure => decide
    · go_wp2
      go_round
      case rel => exact Or.inr ⟨rfl, Or.inr (Or.inr rfl)⟩
      case measure => decide
    · go_upto_region 28 with (fail)
      have hkeep : Hid (∀ j (v : Value), w.cell? ⟨bk, j, none⟩ = some v → True) := fun _ _ _ => trivial
      go_loopw [12, 13, 14] (fun iv _ _ wr => ∃ m : Nat, m ≤ 3 ∧ iv = .int .i64 (4 - 2 * (m : Int)) ∧ RepAt w.heap.size w1.heap.size m wr ∧ Below w.heap.size w wr) (fun iv _ _ _ => ((intOf iv) + 2).toNat)
      case atStart => exact ⟨0, by omega, rfl, ⟨_, _, hrow2, fun _ _ _ => rfl, fun c h => (by cases h), OwnS.below (show OwnS w1 w.heap.size _ [] from hO1) hb2⟩, hbb⟩
      case round =>
        obtain ⟨m, hm, rfl, hrep, hbr⟩ := hrel
        rcases (show m = 0 ∨ m = 1 ∨ m = 2 ∨ m = 3 by omega) with rfl | rfl | rfl | rfl
        · obtain ⟨f, tr, hrw, hf0, hf1, hO⟩ := hrep
          have hcn : f 10 = .slice none 0 0 := hf0 10 (by omega) (by decide)
          have hcell : wr.cell? ⟨w1.heap.size, 10, none⟩ = some (.slice none 0 0) := by rw [cell_of_row _ _ _ _ _ (0, 0) hrw, rowOf_at _ _ (by omega), hcn]
          have hlast : wr.cell? ⟨w1.heap.size, 256, none⟩ = some tr := by rw [cell_of_row _ _ _ _ _ (0, 0) hrw, rowOf_last]
          have t0 : wr.cell? ⟨bk, off + 4, none⟩ = some (.string ⟨#[10]⟩) := (hbr.cell (p := ⟨bk, off + 4, none⟩) hbk).trans s4
          have t1 : wr.cell? ⟨bk, off + 5, none⟩ = some (.string ⟨#[92, 110]⟩) := (hbr.cell (p := ⟨bk, off + 5, none⟩) hbk).trans s5
          obtain ⟨AT, cT, eT, _, _⟩ := hO.strs
          rw [show ((keyL.take 0).map fun c => (⟨#[c.toUInt8]⟩ : ByteArray)).length = 0 from rfl] at eT
          subst eT
          have hix : ((⟨#[10]⟩ : ByteArray)[0]'(by decide)).toNat = 10 := rfl
          have hxA := Below.news (Below.refl wr.heap.size wr) (.cells #[.int .u8 10] 5)
          have hcv1 := run_convert_bytes_back (P := Tryz.prog) (wr.alloc (.cells #[.int .u8 10] 5)) 56 9 5 ⟨wr.heap.size, 0, none⟩ 1 [10] Tryz.underlying56 Tryz.underlying5 Tryz.underlying9 (fun j hj => by
            obtain rfl : j = 0 := by simp at hj; omega
            exact cell_of_row _ _ _ _ _ (0, 0) (heap_alloc_new wr _))
          replace hcv1 : (convert 56 9 (.slice (some ⟨wr.heap.size, 0, none⟩) 1 1)).run Tryz.prog (wr.alloc (.cells #[.int .u8 10] 5)) = .ok (.string ⟨#[10]⟩) (wr.alloc (.cells #[.int .u8 10] 5)) := hcv1
          have hcv2 : ∀ W, (convert 9 56 (.string ⟨#[92, 110]⟩)).run Tryz.prog W = .ok (.slice (some ⟨W.heap.size, 0, none⟩) 2 (grownCap W 2 0 5)) (W.drew.alloc (.cells (bytesRow ⟨#[92, 110]⟩ (grownCap W 2 0 5)) 5 ((bytesRow ⟨#[92, 110]⟩ (grownCap W 2 0 5)).size, (bytesRow ⟨#[92, 110]⟩ (grownCap W 2 0 5)).size + 1))) := fun W => run_bytes_of_string W 9 56 5 ⟨#[92, 110]⟩ Tryz.underlying9 Tryz.underlying56 Tryz.underlying5
          have hxB := bnext hxA (Below.news (Below.refl (wr.alloc (.cells #[.int .u8 10] 5)).heap.size (wr.alloc (.cells #[.int .u8 10] 5))) (.cells #[.string ⟨#[10]⟩] 9))
          have hB1 : (wr.alloc (.cells #[.int .u8 10] 5)).heap.size = wr.heap.size + 1 := by simp
          have hrB := heap_alloc_new (wr.alloc (.cells #[.int .u8 10] 5)) (.cells #[.string ⟨#[10]⟩] 9)
          rw [hB1] at hrB
          have HS9 : Hid (∀ (j : Nat) s, ([⟨#[10]⟩] : List ByteArray)[j]? = some s → ((wr.alloc (.cells #[.int .u8 10] 5)).alloc (.cells #[.string ⟨#[10]⟩] 9)).cell? ((⟨wr.heap.size + 1, 0, none⟩ : Addr).add j) = some (.string s)) := fun j s hj => by
            cases j with
            | zero => cases hj; exact cell_of_row _ _ _ _ _ (0, 0) hrB
            | succ j => cases hj
          have HLE : Hid (w.heap.size ≤ ((wr.alloc (.cells #[.int .u8 10] 5)).alloc (.cells #[.string ⟨#[10]⟩] 9)).heap.size) := Nat.le_trans hbr.size hxB.size
          have HXB := hide hxB
          have HKL : Hid ((((keyL.take 0).map fun c => (⟨#[c.toUInt8]⟩ : ByteArray)) ++ [(⟨#[10]⟩ : ByteArray)]).length = 1) := rfl
          clear hB1 hrB hxB hxA
          go_wp2_with (at_builtin; refine step_ag rfl (.tmp 119) (.tmp 123) rfl w.heap.size _ ((keyL.take 0).map fun c => (⟨#[c.toUInt8]⟩ : ByteArray)) [⟨#[10]⟩] rfl (OwnS.below hO HXB.out) ⟨wr.heap.size + 1, 0, none⟩ 1 1 rfl rfl HS9.out (by show 0 + 1 ≤ _; omega) HLE.out ?_; intro v8 u8 hO8 hg8 hat8; obtain ⟨A8, c8, e8, _, _⟩ := hO8.strs; rw [HKL.out] at e8; subst e8; have hrw8 := rep_row8 hrw hO HXB.out hg8; have hl8 : u8.cell? ⟨w1.heap.size, 256, none⟩ = some (.slice AT 0 cT) := (by rw [cell_of_row _ _ _ _ _ (0, 0) hrw8, rowOf_last]); have fz8 := frozen_of_row _ w1.heap.size 256 _ _ hrw8; have hr9 := setCell_rowN hrw8 256 (Value.slice A8 1 c8); rw [rowOf_setLast] at hr9; have q9 : ∀ o, ((u8.setCell ⟨w1.heap.size, 256, none⟩ (Value.slice A8 1 c8)).alloc o).cell? ⟨w1.heap.size, 10, none⟩ = some (.slice none 0 0) := (fun o => by rw [cell_of_row _ _ _ _ _ (0, 0) (iNext hr9 (Below.news (Below.refl _ _) o)), rowOf_at _ _ (by omega), hcn]); have z9 : ∀ o, ((u8.setCell ⟨w1.heap.size, 256, none⟩ (Value.slice A8 1 c8)).alloc o).frozen? ⟨w1.heap.size, 10, none⟩ = false := (fun o => frozen_of_row _ w1.heap.size 10 _ _ (iNext hr9 (Below.news (Below.refl _ _) o))))
          have hst := rep_step (cc := 10) (m := 0) (by omega) rfl hrw hf0 hf1 hO (by have := hb1.size; omega) HXB.out hg8 hO8 (bytesRow ⟨#[92, 110]⟩ (grownCap (u8.setCell ⟨w1.heap.size, 256, none⟩ (Value.slice A8 1 c8)) 2 0 5)) ((bytesRow ⟨#[92, 110]⟩ (grownCap (u8.setCell ⟨w1.heap.size, 256, none⟩ (Value.slice A8 1 c8)) 2 0 5)).size, (bytesRow ⟨#[92, 110]⟩ (grownCap (u8.setCell ⟨w1.heap.size, 256, none⟩ (Value.slice A8 1 c8)) 2 0 5)).size + 1) (grownCap (u8.setCell ⟨w1.heap.size, 256, none⟩ (Value.slice A8 1 c8)) 2 0 5) (bytesRow_two 92 110 _).1 (bytesRow_two 92 110 _).2
          go_roundw
          case rel => exact ⟨1, by omega, rfl, hst.1, hbr.trans hst.2⟩
          case measure => decide
        · obtain ⟨f, tr, hrw, hf0, hf1, hO⟩ := hrep
          have hcn : f 34 = .slice none 0 0 := hf0 34 (by omega) (by decide)
          have hcell : wr.cell? ⟨w1.heap.size, 34, none⟩ = some (.slice none 0 0) := by rw [cell_of_row _ _ _ _ _ (0, 0) hrw, rowOf_at _ _ (by omega), hcn]
          have hlast : wr.cell? ⟨w1.heap.size, 256, none⟩ = some tr := by rw [cell_of_row _ _ _ _ _ (0, 0) hrw, rowOf_last]
          have t0 : wr.cell? ⟨bk, off + 2, none⟩ = some (.string ⟨#[34]⟩) := (hbr.cell (p := ⟨bk, off + 2, none⟩) hbk).trans s2
          have t1 : wr.cell? ⟨bk, off + 3, none⟩ = some (.string ⟨#[92, 34]⟩) := (hbr.cell (p := ⟨bk, off + 3, none⟩) hbk).trans s3
          obtain ⟨AT, cT, eT, _, _⟩ := hO.strs
          rw [show ((keyL.take 1).map fun c => (⟨#[c.toUInt8]⟩ : ByteArray)).length = 1 from rfl] at eT
          subst eT
          have hix : ((⟨#[34]⟩ : ByteArray)[0]'(by decide)).toNat = 34 := rfl
          have hxA := Below.news (Below.refl wr.heap.size wr) (.cells #[.int .u8 34] 5)
          have hcv1 := run_convert_bytes_back (P := Tryz.prog) (wr.alloc (.cells #[.int .u8 34] 5)) 56 9 5 ⟨wr.heap.size, 0, none⟩ 1 [34] Tryz.underlying56 Tryz.underlying5 Tryz.underlying9 (fun j hj => by
            obtain rfl : j = 0 := by simp at hj; omega
            exact cell_of_row _ _ _ _ _ (0, 0) (heap_alloc_new wr _))
          replace hcv1 : (convert 56 9 (.slice (some ⟨wr.heap.size, 0, none⟩) 1 1)).run Tryz.prog (wr.alloc (.cells #[.int .u8 34] 5)) = .ok (.string ⟨#[34]⟩) (wr.alloc (.cells #[.int .u8 34] 5)) := hcv1
          have hcv2 : ∀ W, (convert 9 56 (.string ⟨#[92, 34]⟩)).run Tryz.prog W = .ok (.slice (some ⟨W.heap.size, 0, none⟩) 2 (grownCap W 2 0 5)) (W.drew.alloc (.cells (bytesRow ⟨#[92, 34]⟩ (grownCap W 2 0 5)) 5 ((bytesRow ⟨#[92, 34]⟩ (grownCap W 2 0 5)).size, (bytesRow ⟨#[92, 34]⟩ (grownCap W 2 0 5)).size + 1))) := fun W => run_bytes_of_string W 9 56 5 ⟨#[92, 34]⟩ Tryz.underlying9 Tryz.underlying56 Tryz.underlying5
          have hxB := bnext hxA (Below.news (Below.refl (wr.alloc (.cells #[.int .u8 34] 5)).heap.size (wr.alloc (.cells #[.int .u8 34] 5))) (.cells #[.string ⟨#[34]⟩] 9))
          have hB1 : (wr.alloc (.cells #[.int .u8 34] 5)).heap.size = wr.heap.size + 1 := by simp
          have hrB := heap_alloc_new (wr.alloc (.cells #[.int .u8 34] 5)) (.cells #[.string ⟨#[34]⟩] 9)
          rw [hB1] at hrB
          have HS9 : Hid (∀ (j : Nat) s, ([⟨#[34]⟩] : List ByteArray)[j]? = some s → ((wr.alloc (.cells #[.int .u8 34] 5)).alloc (.cells #[.string ⟨#[34]⟩] 9)).cell? ((⟨wr.heap.size + 1, 0, none⟩ : Addr).add j) = some (.string s)) := fun j s hj => by
            cases j with
            | zero => cases hj; exact cell_of_row _ _ _ _ _ (0, 0) hrB
            | succ j => cases hj
          have HLE : Hid (w.heap.size ≤ ((wr.alloc (.cells #[.int .u8 34] 5)).alloc (.cells #[.string ⟨#[34]⟩] 9)).heap.size) := Nat.le_trans hbr.size hxB.size
          have HXB := hide hxB
          have HKL : Hid ((((keyL.take 1).map fun c => (⟨#[c.toUInt8]⟩ : ByteArray)) ++ [(⟨#[34]⟩ : ByteArray)]).length = 2) := rfl
          clear hB1 hrB hxB hxA
          go_wp2_with (at_builtin; refine step_ag rfl (.tmp 119) (.tmp 123) rfl w.heap.size _ ((keyL.take 1).map fun c => (⟨#[c.toUInt8]⟩ : ByteArray)) [⟨#[34]⟩] rfl (OwnS.below hO HXB.out) ⟨wr.heap.size + 1, 0, none⟩ 1 1 rfl rfl HS9.out (by show 1 + 1 ≤ _; omega) HLE.out ?_; intro v8 u8 hO8 hg8 hat8; obtain ⟨A8, c8, e8, _, _⟩ := hO8.strs; rw [HKL.out] at e8; subst e8; have hrw8 := rep_row8 hrw hO HXB.out hg8; have hl8 : u8.cell? ⟨w1.heap.size, 256, none⟩ = some (.slice AT 1 cT) := (by rw [cell_of_row _ _ _ _ _ (0, 0) hrw8, rowOf_last]); have fz8 := frozen_of_row _ w1.heap.size 256 _ _ hrw8; have hr9 := setCell_rowN hrw8 256 (Value.slice A8 2 c8); rw [rowOf_setLast] at hr9; have q9 : ∀ o, ((u8.setCell ⟨w1.heap.size, 256, none⟩ (Value.slice A8 2 c8)).alloc o).cell? ⟨w1.heap.size, 34, none⟩ = some (.slice none 0 0) := (fun o => by rw [cell_of_row _ _ _ _ _ (0, 0) (iNext hr9 (Below.news (Below.refl _ _) o)), rowOf_at _ _ (by omega), hcn]); have z9 : ∀ o, ((u8.setCell ⟨w1.heap.size, 256, none⟩ (Value.slice A8 2 c8)).alloc o).frozen? ⟨w1.heap.size, 34, none⟩ = false := (fun o => frozen_of_row _ w1.heap.size 34 _ _ (iNext hr9 (Below.news (Below.refl _ _) o))))
          have hst := rep_step (cc := 34) (m := 1) (by omega) rfl hrw hf0 hf1 hO (by have := hb1.size; omega) HXB.out hg8 hO8 (bytesRow ⟨#[92, 34]⟩ (grownCap (u8.setCell ⟨w1.heap.size, 256, none⟩ (Value.slice A8 2 c8)) 2 0 5)) ((bytesRow ⟨#[92, 34]⟩ (grownCap (u8.setCell ⟨w1.heap.size, 256, none⟩ (Value.slice A8 2 c8)) 2 0 5)).size, (bytesRow ⟨#[92, 34]⟩ (grownCap (u8.setCell ⟨w1.heap.size, 256, none⟩ (Value.slice A8 2 c8)) 2 0 5)).size + 1) (grownCap (u8.setCell ⟨w1.heap.size, 256, none⟩ (Value.slice A8 2 c8)) 2 0 5) (bytesRow_two 92 34 _).1 (bytesRow_two 92 34 _).2
          go_roundw
          case rel => exact ⟨2, by omega, rfl, hst.1, hbr.trans hst.2⟩
          case measure => decide
        · obtain ⟨f, tr, hrw, hf0, hf1, hO⟩ := hrep
          have hcn : f 92 = .slice none 0 0 := hf0 92 (by omega) (by decide)
          have hcell : wr.cell? ⟨w1.heap.size, 92, none⟩ = some (.slice none 0 0) := by rw [cell_of_row _ _ _ _ _ (0, 0) hrw, rowOf_at _ _ (by omega), hcn]
          have hlast : wr.cell? ⟨w1.heap.size, 256, none⟩ = some tr := by rw [cell_of_row _ _ _ _ _ (0, 0) hrw, rowOf_last]
          have t0 : wr.cell? ⟨bk, off, none⟩ = some (.string ⟨#[92]⟩) := (hbr.cell (p := ⟨bk, off, none⟩) hbk).trans s0
          have t1 : wr.cell? ⟨bk, off + 1, none⟩ = some (.string ⟨#[92, 92]⟩) := (hbr.cell (p := ⟨bk, off + 1, none⟩) hbk).trans s1
          obtain ⟨AT, cT, eT, _, _⟩ := hO.strs
          rw [show ((keyL.take 2).map fun c => (⟨#[c.toUInt8]⟩ : ByteArray)).length = 2 from rfl] at eT
          subst eT
          have hix : ((⟨#[92]⟩ : ByteArray)[0]'(by decide)).toNat = 92 := rfl
          have hxA := Below.news (Below.refl wr.heap.size wr) (.cells #[.int .u8 92] 5)
          have hcv1 := run_convert_bytes_back (P := Tryz.prog) (wr.alloc (.cells #[.int .u8 92] 5)) 56 9 5 ⟨wr.heap.size, 0, none⟩ 1 [92] Tryz.underlying56 Tryz.underlying5 Tryz.underlying9 (fun j hj => by
            obtain rfl : j = 0 := by simp at hj; omega
            exact cell_of_row _ _ _ _ _ (0, 0) (heap_alloc_new wr _))
          replace hcv1 : (convert 56 9 (.slice (some ⟨wr.heap.size, 0, none⟩) 1 1)).run Tryz.prog (wr.alloc (.cells #[.int .u8 92] 5)) = .ok (.string ⟨#[92]⟩) (wr.alloc (.cells #[.int .u8 92] 5)) := hcv1
          have hcv2 : ∀ W, (convert 9 56 (.string ⟨#[92, 92]⟩)).run Tryz.prog W = .ok (.slice (some ⟨W.heap.size, 0, none⟩) 2 (grownCap W 2 0 5)) (W.drew.alloc (.cells (bytesRow ⟨#[92, 92]⟩ (grownCap W 2 0 5)) 5 ((bytesRow ⟨#[92, 92]⟩ (grownCap W 2 0 5)).size, (bytesRow ⟨#[92, 92]⟩ (grownCap W 2 0 5)).size + 1))) := fun W => run_bytes_of_string W 9 56 5 ⟨#[92, 92]⟩ Tryz.underlying9 Tryz.underlying56 Tryz.underlying5
          have hxB := bnext hxA (Below.news (Below.refl (wr.alloc (.cells #[.int .u8 92] 5)).heap.size (wr.alloc (.cells #[.int .u8 92] 5))) (.cells #[.string ⟨#[92]⟩] 9))
          have hB1 : (wr.alloc (.cells #[.int .u8 92] 5)).heap.size = wr.heap.size + 1 := by simp
          have hrB := heap_alloc_new (wr.alloc (.cells #[.int .u8 92] 5)) (.cells #[.string ⟨#[92]⟩] 9)
          rw [hB1] at hrB
          have HS9 : Hid (∀ (j : Nat) s, ([⟨#[92]⟩] : List ByteArray)[j]? = some s → ((wr.alloc (.cells #[.int .u8 92] 5)).alloc (.cells #[.string ⟨#[92]⟩] 9)).cell? ((⟨wr.heap.size + 1, 0, none⟩ : Addr).add j) = some (.string s)) := fun j s hj => by
            cases j with
            | zero => cases hj; exact cell_of_row _ _ _ _ _ (0, 0) hrB
            | succ j => cases hj
          have HLE : Hid (w.heap.size ≤ ((wr.alloc (.cells #[.int .u8 92] 5)).alloc (.cells #[.string ⟨#[92]⟩] 9)).heap.size) := Nat.le_trans hbr.size hxB.size
          have HXB := hide hxB
          have HKL : Hid ((((keyL.take 2).map fun c => (⟨#[c.toUInt8]⟩ : ByteArray)) ++ [(⟨#[92]⟩ : ByteArray)]).length = 3) := rfl
          clear hB1 hrB hxB hxA
          go_wp2_with (at_builtin; refine step_ag rfl (.tmp 119) (.tmp 123) rfl w.heap.size _ ((keyL.take 2).map fun c => (⟨#[c.toUInt8]⟩ : ByteArray)) [⟨#[92]⟩] rfl (OwnS.below hO HXB.out) ⟨wr.heap.size + 1, 0, none⟩ 1 1 rfl rfl HS9.out (by show 2 + 1 ≤ _; omega) HLE.out ?_; intro v8 u8 hO8 hg8 hat8; obtain ⟨A8, c8, e8, _, _⟩ := hO8.strs; rw [HKL.out] at e8; subst e8; have hrw8 := rep_row8 hrw hO HXB.out hg8; have hl8 : u8.cell? ⟨w1.heap.size, 256, none⟩ = some (.slice AT 2 cT) := (by rw [cell_of_row _ _ _ _ _ (0, 0) hrw8, rowOf_last]); have fz8 := frozen_of_row _ w1.heap.size 256 _ _ hrw8; have hr9 := setCell_rowN hrw8 256 (Value.slice A8 3 c8); rw [rowOf_setLast] at hr9; have q9 : ∀ o, ((u8.setCell ⟨w1.heap.size, 256, none⟩ (Value.slice A8 3 c8)).alloc o).cell? ⟨w1.heap.size, 92, none⟩ = some (.slice none 0 0) := (fun o => by rw [cell_of_row _ _ _ _ _ (0, 0) (iNext hr9 (Below.news (Below.refl _ _) o)), rowOf_at _ _ (by omega), hcn]); have z9 : ∀ o, ((u8.setCell ⟨w1.heap.size, 256, none⟩ (Value.slice A8 3 c8)).alloc o).frozen? ⟨w1.heap.size, 92, none⟩ = false := (fun o => frozen_of_row _ w1.heap.size 92 _ _ (iNext hr9 (Below.news (Below.refl _ _) o))))
          have hst := rep_step (cc := 92) (m := 2) (by omega) rfl hrw hf0 hf1 hO (by have := hb1.size; omega) HXB.out hg8 hO8 (bytesRow ⟨#[92, 92]⟩ (grownCap (u8.setCell ⟨w1.heap.size, 256, none⟩ (Value.slice A8 3 c8)) 2 0 5)) ((bytesRow ⟨#[92, 92]⟩ (grownCap (u8.setCell ⟨w1.heap.size, 256, none⟩ (Value.slice A8 3 c8)) 2 0 5)).size, (bytesRow ⟨#[92, 92]⟩ (grownCap (u8.setCell ⟨w1.heap.size, 256, none⟩ (Value.slice A8 3 c8)) 2 0 5)).size + 1) (grownCap (u8.setCell ⟨w1.heap.size, 256, none⟩ (Value.slice A8 3 c8)) 2 0 5) (bytesRow_two 92 92 _).1 (bytesRow_two 92 92 _).2
          go_roundw
          case rel => exact ⟨3, by omega, rfl, hst.1, hbr.trans hst.2⟩
          case measure => decide
        · go_wp2
          go_ret
          exact ⟨w1.heap.size, rfl, hb1.size, hrep, hbr⟩
set_option maxRecDepth 100000 in
set_option maxHeartbeats 4000000 in
theorem buildOnce_any (b : Nat) (A : Option Addr) (c : Nat) (x0 x1 x2 x3 : Value) (w : World) (hrow : w.heap[b]? = some (.cells #[x0, x1, x2, x3, .slice A 6 c] 130 (0, 0))) (hS : Strs w w.heap.size A six) :
    Calls Tryz.prog 102 #[.pointer (some ⟨b, 0, none⟩)] w fun e w' => e = .returned (.tuple #[]) ∧ ∃ g w2, RepAt w.heap.size g 3 w2 ∧ w.heap.size ≤ g ∧ Below w.heap.size w w2 ∧ w' = (w2.setCell ⟨b, 3, none⟩ (.iface 168 (.pointer (some ⟨g, 0, none⟩)))).setCell ⟨b, 4, none⟩ (.slice none 0 0) := by
  go_enter Tryz.func102, Tryz.ntmps102
  go_wp2_with fail
  refine (build_any b A c x0 x1 x2 x3 w hrow hS).mono ?_
  rintro e w2 ⟨g, rfl, hg, hrep, hb⟩
  have hrow2 := iNext hrow hb
  have f3 := frozen_of_row _ b 3 _ _ hrow2
  obtain ⟨c0, c1, c2, c3, c4⟩ := iCells5 hrow2
  have hrow3 : (w2.setCell ⟨b, 3, none⟩ (.iface 168 (.pointer (some ⟨g, 0, none⟩)))).heap[b]? = some (.cells #[x0, x1, x2, .iface 168 (.pointer (some ⟨g, 0, none⟩)), .slice A 6 c] 130 (0, 0)) := setCell_rowN hrow2 3 _
  have f4 := frozen_of_row _ b 4 _ _ hrow3
  obtain ⟨d0, d1, d2, d3, d4⟩ := iCells5 hrow3
  have HREP := hide hrep
  clear hrep hrow hrow2 hrow3
  go_wp2
  go_end0
  exact ⟨rfl, g, w2, HREP.out, hg, hb, rfl⟩
end Go.Proofs.YtpldhempbdionaaGreatDoor
/- What the replacer hands back. No conditions but those that each theorem states. -/
namespace Go.Proofs.YtpldhempbdionaaGreatDoor
open Go Go.RowKit Go.Sort Go.Maps
/-- The replacer's row as it is read. -/
theorem rep_load {n0 g : Nat} {W : World} (h : RepAt n0 g 3 W) : ∃ f A c, W.heap[g]? = some (.cells (rowOf f (.slice A 3 c)) 167 (0, 0)) ∧ Strs W W.heap.size A [⟨#[10]⟩, ⟨#[34]⟩, ⟨#[92]⟩] ∧ (∀ k, k < 256 → k ≠ 10 → k ≠ 34 → k ≠ 92 → f k = .slice none 0 0) ∧
    (∀ k, k = 10 ∨ k = 34 ∨ k = 92 → ∃ B cap, f k = .slice (some ⟨B, 0, none⟩) 2 cap ∧ B < W.heap.size ∧ W.cell? ⟨B, 0, none⟩ = some (.int .u8 92) ∧ W.cell? ⟨B, 1, none⟩ = some (.int .u8 (escN k))) := by
  obtain ⟨f, tr, h1, h2, h3, h4⟩ := h
  obtain ⟨A, c, e, _, h5⟩ := OwnS.strs h4
  have e2 : (keyL.take 3).map (fun c => (⟨#[c.toUInt8]⟩ : ByteArray)) = [⟨#[10]⟩, ⟨#[34]⟩, ⟨#[92]⟩] := rfl
  rw [e2] at e h5
  subst e
  refine ⟨f, A, c, h1, h5, fun k hk k1 k2 k3 => h2 k hk (by simp [keyL, k1, k2, k3]), fun k hk => ?_⟩
  obtain ⟨B, cap, cs, fr, q1, _, q3, q4, q5⟩ := h3 k (by rcases hk with rfl | rfl | rfl <;> simp [keyL])
  refine ⟨B, cap, q1, lt_of_block q3, ?_, ?_⟩
  · rw [cell_of_row _ _ _ _ _ fr q3]; exact q4
  · rw [cell_of_row _ _ _ _ _ fr q3]; exact q5
/-- How long the text gets. -/
def cntL (l : List UInt8) : Nat := l.count 10 + l.count 34 + l.count 92
theorem escL_size : ∀ l : List UInt8, (Dg.escL l).length = l.length + cntL l
  | [] => rfl
  | c :: l => by
    have ih := escL_size l
    have e : Dg.escL (c :: l) = Dg.escC c ++ Dg.escL l := rfl
    rw [e, List.length_append, ih]
    unfold cntL
    simp only [List.count_cons, List.length_cons, beq_iff_eq]
    unfold Dg.escC
    by_cases h1 : c = 92
    · subst h1; simp; omega
    · by_cases h2 : c = 34
      · subst h2; simp; omega
      · by_cases h3 : c = 10
        · subst h3; simp; omega
        · simp [h1, h2, h3]; omega
theorem escL_none : ∀ l : List UInt8, cntL l = 0 → Dg.escL l = l
  | [], _ => rfl
  | c :: l, h => by
    have e : Dg.escL (c :: l) = Dg.escC c ++ Dg.escL l := rfl
    unfold cntL at h
    simp only [List.count_cons, beq_iff_eq] at h
    have h1 : c ≠ 10 := fun e => by rw [if_pos e] at h; omega
    have h2 : c ≠ 34 := fun e => by rw [if_pos e] at h; omega
    have h3 : c ≠ 92 := fun e => by rw [if_pos e] at h; omega
    rw [e, escL_none l (by unfold cntL; omega)]
    unfold Dg.escC
    rw [if_neg h3, if_neg h2, if_neg h1]
    rfl
/-- The count of the first k of the three bytes. -/
def cntTo (l : List UInt8) (k : Nat) : Nat := ((keyL.take k).map fun c => l.count c.toUInt8).sum
theorem cntTo_all (l : List UInt8) : cntTo l 3 = cntL l := by
  unfold cntTo cntL keyL
  simp
  omega
theorem cntL_le (l : List UInt8) : cntL l ≤ l.length := by
  have h1 := escL_size l
  have h2 := Dg.escL_len l
  omega
theorem cntTo_le (l : List UInt8) (k : Nat) : cntTo l k ≤ 3 * l.length := by
  unfold cntTo keyL
  have h1 := List.count_le_length (a := (10 : UInt8)) (l := l)
  have h2 := List.count_le_length (a := (34 : UInt8)) (l := l)
  have h3 := List.count_le_length (a := (92 : UInt8)) (l := l)
  match k with
  | 0 => simp
  | 1 => simp; omega
  | 2 => simp; omega
  | k + 3 => simp; omega
def spC (c : UInt8) : Bool := c == 10 || (c == 34 || c == 92)
theorem cntL_snoc (l : List UInt8) (c : UInt8) : cntL (l ++ [c]) = cntL l + (if spC c = true then 1 else 0) := by
  unfold cntL spC
  simp only [List.count_append, List.count_cons, List.count_nil, beq_iff_eq, Bool.or_eq_true]
  by_cases h1 : c = 10
  · subst h1; simp; omega
  · by_cases h2 : c = 34
    · subst h2; simp; omega
    · by_cases h3 : c = 92
      · subst h3; simp; omega
      · simp [h1, h2, h3]
theorem sp_num {c : UInt8} : spC c = true ↔ (c.toNat = 10 ∨ c.toNat = 34 ∨ c.toNat = 92) := by
  unfold spC
  simp only [Bool.or_eq_true, beq_iff_eq, ← UInt8.toNat_inj]
  rfl
theorem L_takeS {s : ByteArray} {k : Nat} (h : k < s.size) : (Dg.L s).take (k + 1) = (Dg.L s).take k ++ [s[k]'h] := by
  have hl : k < (Dg.L s).length := by rw [Dg.len_L]; exact h
  rw [List.take_succ_eq_append_getElem hl]
  have := byte_at h
  rw [List.getElem?_eq_getElem hl] at this
  injection this with this
  rw [this]
theorem wp_cp {w : World} {o : Oper} {a : Act} {K : Act → World → Prop} {Q : Exit → Act → World → Prop} (d s : Operand)
    (ho : o.op = .call { callee := .builtin .copy, args := #[d, s], argTypes := #[56, 56] })
    (g off dLen dCap : Nat) (ad : Addr) (sLen sCap : Nat) (hd : a.eval d = .slice (some ⟨g, off, none⟩) dLen dCap) (hs : a.eval s = .slice (some ad) sLen sCap)
    (cur : Array Value) (t : TypeId) (hg : w.heap[g]? = some (.cells cur t (0, 0))) (cs : List Value) (hn : cs.length = Nat.min sLen dLen)
    (hsrc : ∀ j v, cs[j]? = some v → w.cell? (ad.add j) = some v) (hfit : off + cs.length ≤ cur.size) (h1 : ∀ v ∈ cs, v.oneCell' = true)
    (h : K (a.put o.dst (goInt cs.length)) (w.setRow g (cur.toList.take off ++ (cs ++ cur.toList.drop (off + cs.length))).toArray)) : o.wp Tryz.prog a w K Q := by
  have hrun := run_copy_row (P := Tryz.prog) w 56 56 o.type 5 g off dLen dCap ad sLen sCap cur t cs Tryz.underlying56 (by kernel_rfl) hg hn hsrc hfit h1
  unfold Oper.wp
  simp [execOp, ho, resolve, invoke, builtin, hd, hs, hrun, Result.andThen]
  exact h
/-- The new text's bytes, as far as they are laid. -/
def bufA (pre : List UInt8) (N : Nat) : Array Value := (pre.map (fun (b : UInt8) => Value.int .u8 (b.toNat : Int)) ++ List.replicate (N - pre.length) (Value.int .u8 0)).toArray
theorem bufA_size (pre : List UInt8) (N : Nat) (h : pre.length ≤ N) : (bufA pre N).size = N := by simp [bufA]; omega
theorem buf_set (pre : List UInt8) (N : Nat) (c : UInt8) (h : pre.length < N) : (bufA pre N).setIfInBounds pre.length (.int .u8 (c.toNat : Int)) = bufA (pre ++ [c]) N := by
  unfold bufA
  rw [List.setIfInBounds_toArray, List.set_append, if_neg (by simp), List.length_map, Nat.sub_self]
  congr 1
  rw [List.map_append, List.append_assoc]
  congr 1
  rw [show N - pre.length = (N - (pre ++ [c]).length) + 1 by rw [List.length_append, List.length_singleton]; omega, List.replicate_succ]
  rfl
theorem buf_cp (pre : List UInt8) (N : Nat) (x y : UInt8) (_h : pre.length + 2 ≤ N) : ((bufA pre N).toList.take pre.length ++ ([Value.int .u8 (x.toNat : Int), Value.int .u8 (y.toNat : Int)] ++ (bufA pre N).toList.drop (pre.length + 2))).toArray = bufA (pre ++ [x, y]) N := by
  unfold bufA
  refine congrArg List.toArray ?_
  rw [List.take_append_of_le_length (by simp), List.take_of_length_le (by simp), List.map_append, List.append_assoc]
  congr 1
  have e1 : List.drop (pre.length + 2) ((pre.map (fun (b : UInt8) => Value.int .u8 (b.toNat : Int))) ++ List.replicate (N - pre.length) (Value.int .u8 0)) = List.replicate (N - (pre ++ [x, y]).length) (Value.int .u8 0) := by
    rw [List.drop_append, List.drop_eq_nil_of_le (by simp), List.nil_append, List.length_map, List.drop_replicate]
    congr 1
    simp
    omega
  show [Value.int .u8 (x.toNat : Int), Value.int .u8 (y.toNat : Int)] ++ List.drop (pre.length + 2) _ = [Value.int .u8 (x.toNat : Int), Value.int .u8 (y.toNat : Int)] ++ _
  rw [e1]
theorem escL_take_le (l : List UInt8) (k : Nat) : (Dg.escL (l.take k)).length ≤ (Dg.escL l).length := by
  conv => rhs; rw [← List.take_append_drop k l]
  unfold Dg.escL
  rw [List.flatMap_append, List.length_append]
  omega
theorem buf_at (pre : List UInt8) (N : Nat) (h : pre.length < N) : (bufA pre N)[pre.length]? = some (.int .u8 0) := by
  unfold bufA
  rw [List.getElem?_toArray, List.getElem?_append_right (by simp), List.length_map, Nat.sub_self, List.getElem?_replicate, if_pos (by omega)]
theorem byteInfo9 : (Tryz.prog.info? 5).map (fun i => (i.zero, i.size, i.bytes)) = some (some (.int .u8 0), 1, 1) := by kernel_rfl
theorem info_partsB : ∃ i, Tryz.prog.info? 5 = some i ∧ i.zero = some (.int .u8 0) ∧ i.size = 1 ∧ i.bytes = 1 := info_parts byteInfo9
theorem made_buf (N : Nat) : madeCells (Value.int IntKind.u8 0).cells N = bufA [] N := by
  unfold bufA
  apply Array.ext
  · simp [size_madeCells]
  · intro i h1 h2
    simp [madeCells, Value.cells, Nat.mod_one]
theorem escL_snoc (l : List UInt8) (c : UInt8) : Dg.escL (l ++ [c]) = Dg.escL l ++ Dg.escC c := by
  unfold Dg.escL
  rw [List.flatMap_append]
  simp
theorem escC_sp {c : UInt8} (h : spC c = true) : ∃ e : UInt8, Dg.escC c = [92, e] ∧ (e.toNat : Int) = (escN c.toNat : Int) := by
  rcases sp_num.1 h with e | e | e
  · obtain rfl : c = 10 := UInt8.toNat_inj.1 e
    exact ⟨110, rfl, rfl⟩
  · obtain rfl : c = 34 := UInt8.toNat_inj.1 e
    exact ⟨34, rfl, rfl⟩
  · obtain rfl : c = 92 := UInt8.toNat_inj.1 e
    exact ⟨92, rfl, rfl⟩
theorem escC_no {c : UInt8} (h : spC c = false) : Dg.escC c = [c] := by
  unfold spC at h
  simp only [Bool.or_eq_false_iff, beq_eq_false_iff_ne, ne_eq] at h
  unfold Dg.escC
  rw [if_neg h.2.2, if_neg h.2.1, if_neg h.1]
theorem count_any (s : ByteArray) (c : UInt8) (w : World) : Calls Tryz.prog 106 #[.string s, .string ⟨#[c]⟩] w fun e w' => e = .returned (.int .i64 (((Dg.L s).count c : Nat) : Int)) ∧ w' = w :=
  Tryz.strings_Count_one s c w
set_option maxRecDepth 100000 in
set_option maxHeartbeats 4000000 in
theorem bsr_any (s : ByteArray) (hs : s.size ≤ 1073741824) (n0 g : Nat) (w : World) (hrep : RepAt n0 g 3 w) (R : ByteArray) (hR : Dg.B (Dg.escL (Dg.L s)) = R) :
    Calls Tryz.prog 198 #[.pointer (some ⟨g, 0, none⟩), .string s] w fun e w' => e = .returned (.string R) ∧ Below w.heap.size w w' := by
  obtain ⟨f, A, c, hrow, hS, hf0, hf1⟩ := rep_load hrep
  clear hrep
  have hR2 := hide hR
  clear hR
  have hl256 : w.cell? ⟨g, 256, none⟩ = some (.slice A 3 c) := by rw [cell_of_row _ _ _ _ _ (0, 0) hrow, rowOf_last]
  have hneq : ∀ (w : World) (a : Option Addr) (l c : Nat), (binOp .neq 56 (.slice a l c) (.slice none 0 0)).run Tryz.prog w = .ok (.bool (!a.isNone)) w := fun w a l c => run_neq_slice_nil_any w _ _ a l c 0 0 Tryz.underlying56
  go_enter Tryz.func198, Tryz.ntmps198
  obtain ⟨bb, hbb⟩ : ∃ b, decide ((24 : Int) ≤ (s.size : Int)) = b := ⟨_, rfl⟩
  go_upto_if 26 with (fail)
  clear hbb
  go_cut [5, 6] from 7 to 80 (fun v5 v6 wx => v5 = .int .i64 ((s.size + cntL (Dg.L s) : Nat) : Int) ∧ v6 = .bool (decide (cntL (Dg.L s) ≠ 0)) ∧ Below w.heap.size w wx)
  case first =>
    have hcl := cntL_le (Dg.L s)
    rw [Dg.len_L] at hcl
    cases bb with
    | true =>
      go_upto_region 5 with (fail)
      go_loopw [5, 6, 8, 9, 32] (fun v5 v6 _ _ iv wr => ∃ (k M : Nat) (fb : Bool), k ≤ 3 ∧ iv = .int .i64 (k : Int) ∧ v5 = .int .i64 (M : Int) ∧ v6 = .bool fb ∧ Hid (M = s.size + cntTo (Dg.L s) k) ∧ Hid (fb = decide (cntTo (Dg.L s) k ≠ 0)) ∧ Below w.heap.size w wr) (fun _ _ _ _ iv _ => 3 - (intOf iv).toNat)
      case atStart => exact ⟨0, s.size, false, by omega, rfl, rfl, rfl, rfl, rfl, Below.refl _ _⟩
      case round =>
        obtain ⟨k, M, fb, hk, rfl, rfl, rfl, hM, hfb, hb⟩ := hrel
        rcases (show k = 0 ∨ k = 1 ∨ k = 2 ∨ k = 3 by omega) with rfl | rfl | rfl | rfl
        · have hS2 := hS.below hb
          obtain ⟨b, off, rfl, hbl, hcell⟩ := hS2.at_ (by show 0 < 3; omega)
          have p0 : wr.cell? ⟨b, off, none⟩ = some (.string ⟨#[10]⟩) := hcell 0 _ rfl
          have hix : ((⟨#[10]⟩ : ByteArray)[0]'(by decide)).toNat = 10 := rfl
          obtain ⟨B, cap, hf, hBl, _, _⟩ := hf1 10 (by simp)
          have hrowr := iNext hrow hb
          have hlastr : wr.cell? ⟨g, 256, none⟩ = some (.slice (some ⟨b, off, none⟩) 3 c) := by rw [cell_of_row _ _ _ _ _ (0, 0) hrowr, rowOf_last]
          have hcell2 : wr.cell? ⟨g, 10, none⟩ = some (.slice (some ⟨B, 0, none⟩) 2 cap) := by rw [cell_of_row _ _ _ _ _ (0, 0) hrowr, rowOf_at _ _ (by omega), hf]
          have hstp : cntTo (Dg.L s) 1 = cntTo (Dg.L s) 0 + (Dg.L s).count 10 := by unfold cntTo keyL; simp; try omega
          have hle := cntTo_le (Dg.L s) 0
          rw [Dg.len_L] at hle
          have hcle := List.count_le_length (a := (10 : UInt8)) (l := Dg.L s)
          rw [Dg.len_L] at hcle
          go_wp2_with fail
          refine (count_any s 10 _).mono ?_
          rintro e w4 ⟨rfl, hw4⟩
          rw [hw4]
          clear hw4
          generalize (Dg.L s).count 10 = N at *
          have hMb : M ≤ 4294967296 := by rw [hM.out]; omega
          have HST := hide hstp
          clear hstp hle
          by_cases hz : N = 0
          · have z1 : ((N : Int) != 0) = false := by rw [hz]; rfl
            have HZ := hide hz
            clear hz
            go_wp2
            go_roundw
            case rel => exact ⟨1, M, fb, by omega, rfl, rfl, rfl, by unfold Hid; rw [hM.out, HST.out, HZ.out, Nat.add_zero], by unfold Hid; rw [hfb.out, HST.out, HZ.out, Nat.add_zero], hb⟩
            case measure => decide
          · have z1 : ((N : Int) != 0) = true := bne_iff_ne.2 (by omega)
            have m1 : IntKind.i64.wrap ((N : Int) * 1) = (N : Int) := by rw [Int.mul_one]; exact IntWalk.i64_in _ (by omega)
            have m2 : IntKind.i64.wrap ((M : Int) + (N : Int)) = ((M + N : Nat) : Int) := by rw [IntWalk.i64_in _ (by omega)]; push_cast; omega
            obtain ⟨M2, hM2⟩ : ∃ M2, M + N = M2 := ⟨_, rfl⟩
            rw [hM2] at m2
            have HZ := hide hz
            clear hz
            go_upto_region 9 with (fail)
            go_quiet (fail)
            go_wp2
            go_roundw
            case rel => exact ⟨1, M2, true, by omega, rfl, rfl, rfl, by unfold Hid; rw [HST.out, ← hM2, hM.out, Nat.add_assoc], by unfold Hid; rw [HST.out]; exact (decide_eq_true (by have := HZ.out; omega)).symm, bnext hb (below_drewN (Below.refl _ _) _)⟩
            case measure => decide
        · have hS2 := hS.below hb
          obtain ⟨b, off, rfl, hbl, hcell⟩ := hS2.at_ (by show 0 < 3; omega)
          have p0 : wr.cell? ⟨b, off + 1, none⟩ = some (.string ⟨#[34]⟩) := hcell 1 _ rfl
          have hix : ((⟨#[34]⟩ : ByteArray)[0]'(by decide)).toNat = 34 := rfl
          obtain ⟨B, cap, hf, hBl, _, _⟩ := hf1 34 (by simp)
          have hrowr := iNext hrow hb
          have hlastr : wr.cell? ⟨g, 256, none⟩ = some (.slice (some ⟨b, off, none⟩) 3 c) := by rw [cell_of_row _ _ _ _ _ (0, 0) hrowr, rowOf_last]
          have hcell2 : wr.cell? ⟨g, 34, none⟩ = some (.slice (some ⟨B, 0, none⟩) 2 cap) := by rw [cell_of_row _ _ _ _ _ (0, 0) hrowr, rowOf_at _ _ (by omega), hf]
          have hstp : cntTo (Dg.L s) 2 = cntTo (Dg.L s) 1 + (Dg.L s).count 34 := by unfold cntTo keyL; simp; try omega
          have hle := cntTo_le (Dg.L s) 1
          rw [Dg.len_L] at hle
          have hcle := List.count_le_length (a := (34 : UInt8)) (l := Dg.L s)
          rw [Dg.len_L] at hcle
          go_wp2_with fail
          refine (count_any s 34 _).mono ?_
          rintro e w4 ⟨rfl, hw4⟩
          rw [hw4]
          clear hw4
          generalize (Dg.L s).count 34 = N at *
          have hMb : M ≤ 4294967296 := by rw [hM.out]; omega
          have HST := hide hstp
          clear hstp hle
          by_cases hz : N = 0
          · have z1 : ((N : Int) != 0) = false := by rw [hz]; rfl
            have HZ := hide hz
            clear hz
            go_wp2
            go_roundw
            case rel => exact ⟨2, M, fb, by omega, rfl, rfl, rfl, by unfold Hid; rw [hM.out, HST.out, HZ.out, Nat.add_zero], by unfold Hid; rw [hfb.out, HST.out, HZ.out, Nat.add_zero], hb⟩
            case measure => decide
          · have z1 : ((N : Int) != 0) = true := bne_iff_ne.2 (by omega)
            have m1 : IntKind.i64.wrap ((N : Int) * 1) = (N : Int) := by rw [Int.mul_one]; exact IntWalk.i64_in _ (by omega)
            have m2 : IntKind.i64.wrap ((M : Int) + (N : Int)) = ((M + N : Nat) : Int) := by rw [IntWalk.i64_in _ (by omega)]; push_cast; omega
            obtain ⟨M2, hM2⟩ : ∃ M2, M + N = M2 := ⟨_, rfl⟩
            rw [hM2] at m2
            have HZ := hide hz
            clear hz
            go_upto_region 9 with (fail)
            go_quiet (fail)
            go_wp2
            go_roundw
            case rel => exact ⟨2, M2, true, by omega, rfl, rfl, rfl, by unfold Hid; rw [HST.out, ← hM2, hM.out, Nat.add_assoc], by unfold Hid; rw [HST.out]; exact (decide_eq_true (by have := HZ.out; omega)).symm, bnext hb (below_drewN (Below.refl _ _) _)⟩
            case measure => decide
        · have hS2 := hS.below hb
          obtain ⟨b, off, rfl, hbl, hcell⟩ := hS2.at_ (by show 0 < 3; omega)
          have p0 : wr.cell? ⟨b, off + 2, none⟩ = some (.string ⟨#[92]⟩) := hcell 2 _ rfl
          have hix : ((⟨#[92]⟩ : ByteArray)[0]'(by decide)).toNat = 92 := rfl
          obtain ⟨B, cap, hf, hBl, _, _⟩ := hf1 92 (by simp)
          have hrowr := iNext hrow hb
          have hlastr : wr.cell? ⟨g, 256, none⟩ = some (.slice (some ⟨b, off, none⟩) 3 c) := by rw [cell_of_row _ _ _ _ _ (0, 0) hrowr, rowOf_last]
          have hcell2 : wr.cell? ⟨g, 92, none⟩ = some (.slice (some ⟨B, 0, none⟩) 2 cap) := by rw [cell_of_row _ _ _ _ _ (0, 0) hrowr, rowOf_at _ _ (by omega), hf]
          have hstp : cntTo (Dg.L s) 3 = cntTo (Dg.L s) 2 + (Dg.L s).count 92 := by unfold cntTo keyL; simp; try omega
          have hle := cntTo_le (Dg.L s) 2
          rw [Dg.len_L] at hle
          have hcle := List.count_le_length (a := (92 : UInt8)) (l := Dg.L s)
          rw [Dg.len_L] at hcle
          go_wp2_with fail
          refine (count_any s 92 _).mono ?_
          rintro e w4 ⟨rfl, hw4⟩
          rw [hw4]
          clear hw4
          generalize (Dg.L s).count 92 = N at *
          have hMb : M ≤ 4294967296 := by rw [hM.out]; omega
          have HST := hide hstp
          clear hstp hle
          by_cases hz : N = 0
          · have z1 : ((N : Int) != 0) = false := by rw [hz]; rfl
            have HZ := hide hz
            clear hz
            go_wp2
            go_roundw
            case rel => exact ⟨3, M, fb, by omega, rfl, rfl, rfl, by unfold Hid; rw [hM.out, HST.out, HZ.out, Nat.add_zero], by unfold Hid; rw [hfb.out, HST.out, HZ.out, Nat.add_zero], hb⟩
            case measure => decide
          · have z1 : ((N : Int) != 0) = true := bne_iff_ne.2 (by omega)
            have m1 : IntKind.i64.wrap ((N : Int) * 1) = (N : Int) := by rw [Int.mul_one]; exact IntWalk.i64_in _ (by omega)
            have m2 : IntKind.i64.wrap ((M : Int) + (N : Int)) = ((M + N : Nat) : Int) := by rw [IntWalk.i64_in _ (by omega)]; push_cast; omega
            obtain ⟨M2, hM2⟩ : ∃ M2, M + N = M2 := ⟨_, rfl⟩
            rw [hM2] at m2
            have HZ := hide hz
            clear hz
            go_upto_region 9 with (fail)
            go_quiet (fail)
            go_wp2
            go_roundw
            case rel => exact ⟨3, M2, true, by omega, rfl, rfl, rfl, by unfold Hid; rw [HST.out, ← hM2, hM.out, Nat.add_assoc], by unfold Hid; rw [HST.out]; exact (decide_eq_true (by have := HZ.out; omega)).symm, bnext hb (below_drewN (Below.refl _ _) _)⟩
            case measure => decide
        · go_wp2
          go_meet
          exact ⟨by rw [hM.out, cntTo_all], by rw [hfb.out, cntTo_all], hb⟩
    | false =>
      go_upto_region 13 with (fail)
      go_loopw [5, 6, 10, 11] (fun v5 v6 iv _ wr => ∃ (k M : Nat) (fb : Bool), k ≤ s.size ∧ iv = .int .i64 (k : Int) ∧ v5 = .int .i64 (M : Int) ∧ v6 = .bool fb ∧ Hid (M = s.size + cntL ((Dg.L s).take k)) ∧ Hid (fb = decide (cntL ((Dg.L s).take k) ≠ 0)) ∧ Below w.heap.size w wr) (fun _ _ iv _ _ => s.size - (intOf iv).toNat)
      case atStart => exact ⟨0, s.size, false, by omega, rfl, rfl, rfl, rfl, rfl, Below.refl _ _⟩
      case round =>
        obtain ⟨k, M, fb, hk, rfl, rfl, rfl, hM, hfb, hb⟩ := hrel
        by_cases hlt : k < s.size
        · have htk := L_takeS hlt
          obtain ⟨ch, hch⟩ : ∃ ch, s[k]'hlt = ch := ⟨_, rfl⟩
          rw [hch] at htk
          have hc2 := cntL_snoc ((Dg.L s).take k) ch
          rw [← htk] at hc2
          have hMb : M ≤ 4294967296 := by
            have h9 := cntL_le ((Dg.L s).take k)
            rw [List.length_take] at h9
            rw [hM.out]
            omega
          have HC2 := hide hc2
          clear hc2 htk
          have hcl8 := ch.toNat_lt
          have hrowr := iNext hrow hb
          have hcell2 : wr.cell? ⟨g, ch.toNat, none⟩ = some (f ch.toNat) := by rw [cell_of_row _ _ _ _ _ (0, 0) hrowr, rowOf_at _ _ (by omega)]
          have hkI : (0 : Int) ≤ (k : Int) := by omega
          cases hsp : spC ch with
          | true =>
            obtain ⟨B, cap, hf, hBl, _, _⟩ := hf1 ch.toNat (sp_num.1 hsp)
            rw [hf] at hcell2
            rw [hsp, if_pos rfl] at HC2
            have m2 : IntKind.i64.wrap ((M : Int) + 1) = ((M + 1 : Nat) : Int) := by rw [IntWalk.i64_in _ (by omega)]; push_cast; omega
            obtain ⟨M2, hM2⟩ : ∃ M2, M + 1 = M2 := ⟨_, rfl⟩
            rw [hM2] at m2
            clear hf hsp
            go_wp2
            go_roundw
            case rel => exact ⟨k + 1, M2, true, by omega, by go_num, rfl, rfl, by unfold Hid; rw [HC2.out, ← hM2, hM.out, Nat.add_assoc], by unfold Hid; rw [HC2.out]; exact (decide_eq_true (by omega)).symm, hb⟩
            case measure => simp [intOf]; omega
          | false =>
            have hn0 : ¬ (ch.toNat = 10 ∨ ch.toNat = 34 ∨ ch.toNat = 92) := fun e => by rw [sp_num.2 e] at hsp; cases hsp
            rw [hf0 ch.toNat (by omega) (fun e => hn0 (Or.inl e)) (fun e => hn0 (Or.inr (Or.inl e))) (fun e => hn0 (Or.inr (Or.inr e)))] at hcell2
            rw [hsp, if_neg Bool.false_ne_true, Nat.add_zero] at HC2
            clear hsp hn0
            go_wp2
            go_roundw
            case rel => exact ⟨k + 1, M, fb, by omega, by go_num, rfl, rfl, by unfold Hid; rw [HC2.out]; exact hM.out, by unfold Hid; rw [HC2.out]; exact hfb.out, hb⟩
            case measure => simp [intOf]; omega
        · obtain rfl : k = s.size := by omega
          have e9 : (Dg.L s).take s.size = Dg.L s := by rw [← Dg.len_L s, List.take_length]
          go_wp2
          go_meet
          exact ⟨by rw [hM.out, e9], by rw [hfb.out, e9], hb⟩
  case rest =>
    obtain ⟨rfl, rfl, hbc⟩ := hcut
    obtain ⟨zb, hzb⟩ : ∃ b, decide (cntL (Dg.L s) ≠ 0) = b := ⟨_, rfl⟩
    rw [hzb]
    obtain ⟨N, hN⟩ : ∃ N, s.size + cntL (Dg.L s) = N := ⟨_, rfl⟩
    rw [hN]
    have hNl : (Dg.escL (Dg.L s)).length = N := by rw [escL_size, Dg.len_L, hN]
    have hcl := cntL_le (Dg.L s)
    rw [Dg.len_L] at hcl
    cases zb with
    | false =>
      have hz : cntL (Dg.L s) = 0 := by simpa using hzb
      have hRs : s = R := by rw [← hR2.out, escL_none _ hz, Dg.B_L]
      have HRS := hide hRs
      clear hRs hz hzb hN hNl
      go_wp2
      go_ret
      exact ⟨ret_str HRS.out, hbc⟩
    | true =>
      have hNb : N ≤ 2147483648 := by omega
      clear hzb hN
      have hS3 := hS.below hbc
      have hrowc := iNext hrow hbc
      have hf2 := hide (fun k hk => by
        obtain ⟨B, cap, q1, q2, q3, q4⟩ := hf1 k hk
        exact (⟨B, cap, q1, Nat.lt_of_lt_of_le q2 hbc.size, (hbc.cell (p := ⟨B, 0, none⟩) q2).trans q3, (hbc.cell (p := ⟨B, 1, none⟩) q2).trans q4⟩ : ∃ B cap, f k = .slice (some ⟨B, 0, none⟩) 2 cap ∧ B < wc.heap.size ∧ wc.cell? ⟨B, 0, none⟩ = some (.int .u8 92) ∧ wc.cell? ⟨B, 1, none⟩ = some (.int .u8 (escN k))))
      obtain ⟨bi, bi1, bi2, bi3, bi4⟩ := info_partsB
      have hmk := run_make (P := Tryz.prog) wc 56 5 bi (.int .u8 0) Tryz.underlying56 bi1 bi2 .i64 .i64 (N : Int) (N : Int) (by omega) (Int.le_refl _) (by rw [bi4]; omega) (by omega)
      rw [bi3, Nat.mul_one, Int.toNat_natCast, show madeCells (Value.int IntKind.u8 0).cells N = bufA [] N from made_buf N] at hmk
      have hrowb := heap_alloc_new wc (.cells (bufA [] N) 5)
      have hxb := Below.news (Below.refl wc.heap.size wc) (.cells (bufA [] N) 5)
      go_upto_region 24 with (fail)
      generalize wc.alloc (.cells (bufA [] N) 5) = w3 at *
      clear hmk bi1 bi2 bi3 bi4
      have hrow3 := iNext hrowc hxb
      have hgl := lt_of_block hrowc
      go_loopw [13, 14, 15] (fun jv iv _ wr => ∃ (k j : Nat), k ≤ s.size ∧ iv = .int .i64 (k : Int) ∧ jv = .int .i64 (j : Int) ∧ Hid (j = (Dg.escL ((Dg.L s).take k)).length) ∧ wr.heap[wc.heap.size]? = some (.cells (bufA (Dg.escL ((Dg.L s).take k)) N) 5 (0, 0)) ∧ Below wc.heap.size wc wr) (fun _ iv _ _ => s.size - (intOf iv).toNat)
      case atStart => exact ⟨0, 0, by omega, rfl, rfl, rfl, hrowb, hxb⟩
      case round =>
        obtain ⟨k, j, hk, rfl, rfl, hj, hrb, hb⟩ := hrel
        by_cases hlt : k < s.size
        · have htk := L_takeS hlt
          obtain ⟨ch, hch⟩ : ∃ ch, s[k]'hlt = ch := ⟨_, rfl⟩
          rw [hch] at htk
          have hlen := escL_take_le (Dg.L s) (k + 1)
          have hnx := escL_snoc ((Dg.L s).take k) ch
          rw [← htk] at hnx
          rw [hNl, hnx, List.length_append] at hlen
          obtain ⟨pre, hpre⟩ : ∃ p, Dg.escL ((Dg.L s).take k) = p := ⟨_, rfl⟩
          rw [hpre] at hj hrb hnx hlen
          have HNX := hide hnx
          clear hnx htk hpre
          have hjj := hj.out
          subst hjj
          have hcl8 := ch.toNat_lt
          have hrowr := iNext hrowc hb
          have hcell2 : wr.cell? ⟨g, ch.toNat, none⟩ = some (f ch.toNat) := by rw [cell_of_row _ _ _ _ _ (0, 0) hrowr, rowOf_at _ _ (by omega)]
          have hkI : (0 : Int) ≤ (k : Int) := by omega
          have hfz := frozen_of_row _ wc.heap.size pre.length _ _ hrb
          cases hsp : spC ch with
          | true =>
            obtain ⟨B, cap, hf, hBl, hB0, hB1⟩ := hf2.out ch.toNat (sp_num.1 hsp)
            obtain ⟨e, he1, he2⟩ := escC_sp hsp
            rw [hf] at hcell2
            rw [he1] at hlen HNX
            rw [show [92, e].length = 2 from rfl] at hlen
            have m2 : IntKind.i64.wrap ((pre.length : Int) + 2) = ((pre.length + 2 : Nat) : Int) := by rw [IntWalk.i64_in _ (by omega)]; push_cast; omega
            have hB0r := (hb.cell (p := ⟨B, 0, none⟩) hBl).trans hB0
            have hB1r := (hb.cell (p := ⟨B, 1, none⟩) hBl).trans hB1
            rw [← he2] at hB1r
            obtain ⟨J, hJ⟩ : ∃ J, pre.length = J := ⟨_, rfl⟩
            have hbp := buf_cp pre N 92 e hlen
            rw [hJ] at m2 hbp hfz hlen ⊢
            have HJ := hide hJ
            clear hf hsp hJ he1
            have hJN : (J : Int) ≤ (N : Int) := by omega
            have hJ0 : (0 : Int) ≤ (J : Int) := by omega
            have hJN2 : ¬ (J : Int) = (N : Int) := by omega
            have hJN3 : J < N := by omega
            have hch1 : (ch.toNat : Int) < 256 := by omega
            have hch0 : (0 : Int) ≤ (ch.toNat : Int) := by omega
            have hJN5 : (J : Int) < (N : Int) := by omega
            have hNJ : ¬ N = J := by omega
            go_upto_region 28 with (fail)
            have hmx : Tryz.prog.follows .mixedOrders = true := by kernel_rfl
            have hHeld : (fun X_ : World => X_.cell? ⟨g, ch.toNat, none⟩ = some (.slice (some ⟨B, 0, none⟩) 2 cap)) wr.drew := hcell2
            have hbd : Below wc.heap.size wc wr.drew := hb.drew
            have hrbd : wr.drew.heap[wc.heap.size]? = some (.cells (bufA pre N) 5 (0, 0)) := hrb
            have hB0d : wr.drew.cell? ⟨B, 0, none⟩ = some (.int .u8 92) := hB0r
            have hB1d : wr.drew.cell? ⟨B, 1, none⟩ = some (.int .u8 (e.toNat : Int)) := hB1r
            have hrowd : wr.drew.heap[g]? = _ := hrowr
            clear hcell2 hrb hB0r hB1r hrowr hb hfz
            refine wp_region_noPanic ?_
            refine wp_region_L (fun X_ : World => X_.cell? ⟨g, ch.toNat, none⟩ = some (.slice (some ⟨B, 0, none⟩) 2 cap)) 13 hmx ?_
            generalize wr.drew = u0 at *
            refine wpAnyL_take (i := 0) (f0 := 14) (v := ?_) rfl (by decide +kernel) (by decide +kernel) (by decide +kernel) (by decide +kernel) (by decide +kernel) (fun _ _ _ h => h) (Or.inl ⟨by rfl, ?_⟩) hHeld ?_
            rotate_left
            · intro wS hS; go_simp; (try with_reducible rfl)
            simp only [Act.put, List.getElem_toArray, List.getElem_cons_zero, List.setIfInBounds_toArray, List.set_cons_succ, List.set_cons_zero]
            refine wpAnyL_take (i := 1) (f0 := 14) (v := ?_) rfl (by decide +kernel) (by decide +kernel) (by decide +kernel) (by decide +kernel) (by decide +kernel) (fun _ _ _ h => h) (Or.inl ⟨by rfl, ?_⟩) hHeld ?_
            rotate_left
            · intro wS hS; go_simp; (try with_reducible rfl)
            simp only [Act.put, List.getElem_toArray, List.getElem_cons_succ, List.getElem_cons_zero, List.setIfInBounds_toArray, List.set_cons_succ, List.set_cons_zero]
            refine wpAnyL_take (i := 2) (f0 := 14) (v := ?_) rfl (by decide +kernel) (by decide +kernel) (by decide +kernel) (by decide +kernel) (by decide +kernel) (fun _ _ _ h => h) (Or.inl ⟨by rfl, ?_⟩) hHeld ?_
            rotate_left
            · intro wS hS; go_simp; (try with_reducible rfl)
            simp only [Act.put, List.getElem_toArray, List.getElem_cons_succ, List.getElem_cons_zero, List.setIfInBounds_toArray, List.set_cons_succ, List.set_cons_zero]
            refine wpAnyL_take (i := 3) (f0 := 14) (v := ?_) rfl (by decide +kernel) (by decide +kernel) (by decide +kernel) (by decide +kernel) (by decide +kernel) (fun _ _ _ h => h) (Or.inl ⟨by rfl, ?_⟩) hHeld ?_
            rotate_left
            · intro wS hS; go_simp; (try with_reducible rfl)
            simp only [Act.put, List.getElem_toArray, List.getElem_cons_succ, List.getElem_cons_zero, List.setIfInBounds_toArray, List.set_cons_succ, List.set_cons_zero]
            refine wpAnyL_take (i := 4) (f0 := 14) (v := ?_) rfl (by decide +kernel) (by decide +kernel) (by decide +kernel) (by decide +kernel) (by decide +kernel) (fun _ _ _ h => h) (Or.inl ⟨by rfl, ?_⟩) hHeld ?_
            rotate_left
            · intro wS hS; go_simp; (try with_reducible rfl)
            simp only [Act.put, List.getElem_toArray, List.getElem_cons_succ, List.getElem_cons_zero, List.setIfInBounds_toArray, List.set_cons_succ, List.set_cons_zero]
            refine wpAnyL_take (i := 5) (f0 := 14) (v := ?_) rfl (by decide +kernel) (by decide +kernel) (by decide +kernel) (by decide +kernel) (by decide +kernel) (fun _ _ _ h => h) (Or.inl ⟨by rfl, ?_⟩) hHeld ?_
            rotate_left
            · intro wS hS; go_simp; (try with_reducible rfl)
            simp only [Act.put, List.getElem_toArray, List.getElem_cons_succ, List.getElem_cons_zero, List.setIfInBounds_toArray, List.set_cons_succ, List.set_cons_zero]
            refine wpAnyL_take (i := 6) (f0 := 14) (v := ?_) rfl (by decide +kernel) (by decide +kernel) (by decide +kernel) (by decide +kernel) (by decide +kernel) (fun _ _ _ h => h) (Or.inl ⟨by rfl, ?_⟩) hHeld ?_
            rotate_left
            · intro wS hS; go_simp; (try with_reducible rfl)
            simp only [Act.put, List.getElem_toArray, List.getElem_cons_succ, List.getElem_cons_zero, List.setIfInBounds_toArray, List.set_cons_succ, List.set_cons_zero]
            refine wpAnyL_take (i := 7) (f0 := 14) (v := ?_) rfl (by decide +kernel) (by decide +kernel) (by decide +kernel) (by decide +kernel) (by decide +kernel) (fun _ _ _ h => h) (Or.inl ⟨by rfl, ?_⟩) hHeld ?_
            rotate_left
            · intro wS hS; go_simp; (try with_reducible rfl)
            simp only [Act.put, List.getElem_toArray, List.getElem_cons_succ, List.getElem_cons_zero, List.setIfInBounds_toArray, List.set_cons_succ, List.set_cons_zero]
            refine wpAnyL_take (i := 8) (f0 := 14) (v := ?_) rfl (by decide +kernel) (by decide +kernel) (by decide +kernel) (by decide +kernel) (by decide +kernel) (fun _ _ _ h => h) (Or.inl ⟨by rfl, ?_⟩) hHeld ?_
            rotate_left
            · intro wS hS; go_simp; (try with_reducible rfl)
            simp only [Act.put, List.getElem_toArray, List.getElem_cons_succ, List.getElem_cons_zero, List.setIfInBounds_toArray, List.set_cons_succ, List.set_cons_zero]
            refine wpAnyL_take (i := 9) (f0 := 14) (v := ?_) rfl (by decide +kernel) (by decide +kernel) (by decide +kernel) (by decide +kernel) (by decide +kernel) (fun _ _ _ h => h) (Or.inl ⟨by rfl, ?_⟩) hHeld ?_
            rotate_left
            · intro wS hS; go_simp; (try with_reducible rfl)
            simp only [Act.put, List.getElem_toArray, List.getElem_cons_succ, List.getElem_cons_zero, List.setIfInBounds_toArray, List.set_cons_succ, List.set_cons_zero]
            refine wpAnyL_one (i := 10) (by decide +kernel) (by rfl) (fun K hK => ?_)
            rw [if_pos (by rfl)]
            refine wp_cp (.tmp 105) (.tmp 111) (by rfl) wc.heap.size J (N - J) (N - J) ⟨B, 0, none⟩ 2 cap (by rfl) (by rfl) (bufA pre N) 5 hrbd [.int .u8 92, .int .u8 (e.toNat : Int)] (by show 2 = min 2 (N - J); omega) (fun j v hj => by
              rw [addr_off, Nat.zero_add]
              match j, hj with
              | 0, hj => cases hj; exact hB0d
              | 1, hj => cases hj; exact hB1d) (by rw [bufA_size pre N (by have := HJ.out; omega)]; exact hlen) (fun v hv => by
              rcases List.mem_cons.1 hv with rfl | hv
              · rfl
              · rw [List.mem_singleton.1 hv]; rfl) ?_
            have hrb3 : (u0.setRow wc.heap.size ((bufA pre N).toList.take J ++ ([Value.int .u8 92, Value.int .u8 (e.toNat : Int)] ++ (bufA pre N).toList.drop (J + [Value.int .u8 92, Value.int .u8 (e.toNat : Int)].length))).toArray).heap[wc.heap.size]? = some (.cells (bufA (pre ++ [92, e]) N) 5 (0, 0)) := by
              rw [setRow_heap _ _ _ _ _ _ hrbd]
              exact congrArg (fun z => some (Obj.cells z 5 (0, 0))) hbp
            have hb3 : Below wc.heap.size wc (u0.setRow wc.heap.size ((bufA pre N).toList.take J ++ ([Value.int .u8 92, Value.int .u8 (e.toNat : Int)] ++ (bufA pre N).toList.drop (J + [Value.int .u8 92, Value.int .u8 (e.toNat : Int)].length))).toArray) := below_setRow hbd (Nat.le_refl _) _
            generalize u0.setRow wc.heap.size ((bufA pre N).toList.take J ++ ([Value.int .u8 92, Value.int .u8 (e.toNat : Int)] ++ (bufA pre N).toList.drop (J + [Value.int .u8 92, Value.int .u8 (e.toNat : Int)].length))).toArray = u3 at *
            have hHeld3 : (fun X_ : World => X_.cell? ⟨g, ch.toNat, none⟩ = some (.slice (some ⟨B, 0, none⟩) 2 cap)) u3 := by
              show u3.cell? ⟨g, ch.toNat, none⟩ = _
              rw [cell_of_row _ _ _ _ _ (0, 0) (iNext hrowc hb3), rowOf_at _ _ (by omega)]
              have := hHeld
              change u0.cell? ⟨g, ch.toNat, none⟩ = _ at this
              rw [cell_of_row _ _ _ _ _ (0, 0) hrowd, rowOf_at _ _ (by omega)] at this
              exact this
            refine hK.out _ _ (Or.inr hHeld3) ?_
            clear hK K hHeld
            try simp only [Act.put, List.getElem_toArray, List.getElem_cons_succ, List.getElem_cons_zero, List.setIfInBounds_toArray, List.set_cons_succ, List.set_cons_zero]
            refine wpAnyL_take (i := 11) (f0 := 14) (v := ?_) rfl (by decide +kernel) (by decide +kernel) (by decide +kernel) (by decide +kernel) (by decide +kernel) (fun _ _ _ h => h) (Or.inl ⟨by rfl, ?_⟩) hHeld3 ?_
            rotate_left
            · intro wS hS; go_simp; (try with_reducible rfl)
            simp only [Act.put, List.getElem_toArray, List.getElem_cons_succ, List.getElem_cons_zero, List.setIfInBounds_toArray, List.set_cons_succ, List.set_cons_zero]
            refine wpAnyL_take (i := 12) (f0 := 14) (v := ?_) rfl (by decide +kernel) (by decide +kernel) (by decide +kernel) (by decide +kernel) (by decide +kernel) (fun _ _ _ h => h) (Or.inl ⟨by rfl, ?_⟩) hHeld3 ?_
            rotate_left
            · intro wS hS; go_simp; (try with_reducible rfl)
            simp only [Act.put, List.getElem_toArray, List.getElem_cons_succ, List.getElem_cons_zero, List.setIfInBounds_toArray, List.set_cons_succ, List.set_cons_zero]
            refine wpAnyL_done (by decide +kernel) ?_ _
            refine NoPanic.normal ?_
            have hjl : Hid (J + 2 = (Dg.escL ((Dg.L s).take (k + 1))).length) := by unfold Hid; rw [HNX.out, List.length_append, HJ.out]; rfl
            have HR3 := hide hrb3
            clear hHeld3 hrb3 hB0d hB1d hbd hrbd hrowd hbp
            go_wp2
            go_roundw
            case rel => exact ⟨k + 1, J + 2, by omega, by go_num, by go_num, hjl, by rw [HNX.out]; exact HR3.out, hb3⟩
            case measure => simp [intOf]; omega
          | false =>
            have hn0 : ¬ (ch.toNat = 10 ∨ ch.toNat = 34 ∨ ch.toNat = 92) := fun e => by rw [sp_num.2 e] at hsp; cases hsp
            rw [hf0 ch.toNat (by omega) (fun e => hn0 (Or.inl e)) (fun e => hn0 (Or.inr (Or.inl e))) (fun e => hn0 (Or.inr (Or.inr e)))] at hcell2
            have he1 := escC_no hsp
            rw [he1] at hlen HNX
            rw [show [ch].length = 1 from rfl] at hlen
            have hcb : wr.cell? ⟨wc.heap.size, pre.length, none⟩ = some (.int .u8 0) := by rw [cell_of_row _ _ _ _ _ (0, 0) hrb, buf_at pre N (by omega)]
            have hrb2 := setCell_rowN hrb pre.length (.int .u8 (ch.toNat : Int))
            rw [buf_set pre N ch (by omega), ← HNX.out] at hrb2
            have hjl : Hid (pre.length + 1 = (Dg.escL ((Dg.L s).take (k + 1))).length) := by unfold Hid; rw [HNX.out, List.length_append]; rfl
            obtain ⟨J, hJ⟩ : ∃ J, pre.length = J := ⟨_, rfl⟩
            rw [hJ] at hcb hrb2 hfz hlen hjl ⊢
            have hJN : (J : Int) < (N : Int) := by omega
            have hJ0 : (0 : Int) ≤ (J : Int) := by omega
            have HR2 := hide hrb2
            clear hsp hn0 hJ he1 hrb2
            go_wp2
            go_roundw
            case rel => exact ⟨k + 1, J + 1, by omega, by go_num, by go_num, hjl, HR2.out, hb.setCell (p := ⟨wc.heap.size, J, none⟩) (Nat.le_refl _) _⟩
            case measure => simp [intOf]; omega
        · obtain rfl : k = s.size := by omega
          have e9 : (Dg.L s).take s.size = Dg.L s := by rw [← Dg.len_L s, List.take_length]
          rw [e9] at hrb
          have hcv := run_convert_bytes_back (P := Tryz.prog) wr 56 9 5 ⟨wc.heap.size, 0, none⟩ N (Dg.escL (Dg.L s)) Tryz.underlying56 Tryz.underlying5 Tryz.underlying9 (fun i hi => by
            rw [addr_off, Nat.zero_add, cell_of_row _ _ _ _ _ (0, 0) hrb]
            unfold bufA
            rw [List.getElem?_toArray, List.getElem?_append_left (by simpa using hi), List.getElem?_map, List.getElem?_eq_getElem hi]
            rfl)
          rw [hNl] at hcv
          have hRR : (⟨(Dg.escL (Dg.L s)).toArray⟩ : ByteArray) = R := hR2.out
          rw [hRR] at hcv
          have hbw := bnext hbc hb
          clear hRR hR2 hrb
          go_wp2
          go_ret
          exact ⟨rfl, hbw⟩
end Go.Proofs.YtpldhempbdionaaGreatDoor
/- quoted of package code. No conditions but those that each theorem states. -/
namespace Go.Proofs.YtpldhempbdionaaGreatDoor
open Go Go.RowKit Go.Sort Go.Maps
theorem RepAt.next {n0 g m : Nat} {W W' : World} (h : RepAt n0 g m W) (hb : Below W.heap.size W W') : RepAt n0 g m W' := by
  obtain ⟨f, tr, h1, h2, h3, h4⟩ := h
  refine ⟨f, tr, iNext h1 hb, h2, fun c hc => ?_, OwnS.below h4 hb⟩
  obtain ⟨B, cap, cs, fr, q1, q2, q3, q4, q5⟩ := h3 c hc
  exact ⟨B, cap, cs, fr, q1, q2, iNext q3 hb, q4, q5⟩
theorem RepAt.set {n0 g m b : Nat} {W : World} (h : RepAt n0 g m W) (hb : b < n0) (hg : n0 ≤ g) (j : Nat) (u : Value) : RepAt n0 g m (W.setCell ⟨b, j, none⟩ u) := by
  obtain ⟨f, tr, h1, h2, h3, h4⟩ := h
  refine ⟨f, tr, (Below.heap_setCell _ _ _ _ (show g ≠ b by omega)).trans h1, h2, fun c hc => ?_, OwnV.same h4 fun k hk => Below.heap_setCell _ _ _ _ (show k ≠ b from by have := (OwnV.lt h4 hk).1; omega)⟩
  obtain ⟨B, cap, cs, fr, q1, q2, q3, q4, q5⟩ := h3 c hc
  exact ⟨B, cap, cs, fr, q1, q2, (Below.heap_setCell _ _ _ _ (show B ≠ b by omega)).trans q3, q4, q5⟩
theorem RepAt.drew {n0 g m : Nat} {W : World} (h : RepAt n0 g m W) : RepAt n0 g m W.drew := h.next (Below.refl _ _).drew
set_option maxRecDepth 100000 in
set_option maxHeartbeats 4000000 in
theorem replace_any (s : ByteArray) (hs : s.size ≤ 1073741824) (b n0 : Nat) (A : Option Addr) (c : Nat) (w : World) (hrow : w.heap[b]? = some (.cells #[.int .u32 0, .int .i32 0, .int .u32 0, .nilIface, .slice A 6 c] 130 (0, 0))) (hO : OwnS w n0 (.slice A 6 c) six) (hn : n0 ≤ b) (R : ByteArray) (hR : Dg.B (Dg.escL (Dg.L s)) = R) :
    Calls Tryz.prog 83 #[.pointer (some ⟨b, 0, none⟩), .string s] w fun e w' => e = .returned (.string R) ∧ Below n0 w w' := by
  have hmf : ∀ (fn : Fn) (first cap : Array Value) (w : World), (Instr.makeFunc fn first cap).run Tryz.prog w = .ok (.func fn first cap) w := fun _ _ _ _ => rfl
  have hblt := lt_of_block hrow
  have hrow1 : (w.setCell ⟨b, 1, none⟩ (.int .i32 1)).heap[b]? = some (.cells #[.int .u32 0, .int .i32 1, .int .u32 0, .nilIface, .slice A 6 c] 130 (0, 0)) := setCell_rowN hrow 1 _
  have hs1 : (w.setCell ⟨b, 1, none⟩ (.int .i32 1)).heap.size = w.heap.size := by simp [World.setCell]
  have hO1 : OwnS (w.setCell ⟨b, 1, none⟩ (.int .i32 1)) n0 (.slice A 6 c) six := OwnV.same hO fun k hk => by
    obtain ⟨c9, h9⟩ := own_type hO hk
    exact Below.heap_setCell _ _ _ _ (show k ≠ b from ne_type h9 hrow (by decide))
  have hstr1 : Strs (w.setCell ⟨b, 1, none⟩ (.int .i32 1)) (w.setCell ⟨b, 1, none⟩ (.int .i32 1)).heap.size A six := by
    obtain ⟨A2, c2, e, _, h⟩ := OwnS.strs hO1
    cases e
    exact h
  have hone := once_of b _ _ _ _ w hrow (fun W => ∃ g w2, RepAt w.heap.size g 3 w2 ∧ w.heap.size ≤ g ∧ Below w.heap.size (w.setCell ⟨b, 1, none⟩ (.int .i32 1)) w2 ∧ W = (w2.setCell ⟨b, 3, none⟩ (.iface 168 (.pointer (some ⟨g, 0, none⟩)))).setCell ⟨b, 4, none⟩ (.slice none 0 0)) (by
    refine (buildOnce_any b A c _ _ _ _ _ hrow1 hstr1).mono ?_
    rintro e w' ⟨rfl, g, w2, h1, h2, h3, rfl⟩
    rw [hs1] at h1 h2 h3
    refine ⟨rfl, ⟨g, w2, h1, h2, h3, rfl⟩, .iface 168 (.pointer (some ⟨g, 0, none⟩)), .slice none 0 0, ?_⟩
    exact setCell_rowN (setCell_rowN (iNext hrow1 (by rw [hs1]; exact h3)) 3 (.iface 168 (.pointer (some ⟨g, 0, none⟩)))) 4 _)
  have HONE := hide hone
  have HR := hide hR
  clear hone hR
  go_enter Tryz.func83, Tryz.ntmps83
  go_wp2_with fail
  refine HONE.out.mono ?_
  rintro e w3 ⟨rfl, w9, ⟨g, w2, hrep, hg, hb2, rfl⟩, rfl⟩
  have hr2 := iNext hrow1 (by rw [hs1]; exact hb2)
  have hr3 := setCell_rowN (setCell_rowN hr2 3 (.iface 168 (.pointer (some ⟨g, 0, none⟩)))) 4 (.slice none 0 0)
  have hr4 := setCell_rowN (setCell_rowN (w := ((w2.setCell ⟨b, 3, none⟩ (.iface 168 (.pointer (some ⟨g, 0, none⟩)))).setCell ⟨b, 4, none⟩ (.slice none 0 0)).drew) hr3 0 (.int .u32 1)) 1 (.int .i32 0)
  have hrep4 := ((((hrep.set hblt hg 3 (.iface 168 (.pointer (some ⟨g, 0, none⟩)))).set hblt hg 4 (.slice none 0 0)).drew).set hblt hg 0 (.int .u32 1)).set hblt hg 1 (.int .i32 0)
  have hb4 : Below n0 w (((((w2.setCell ⟨b, 3, none⟩ (.iface 168 (.pointer (some ⟨g, 0, none⟩)))).setCell ⟨b, 4, none⟩ (.slice none 0 0)).drew).setCell ⟨b, 0, none⟩ (.int .u32 1)).setCell ⟨b, 1, none⟩ (.int .i32 0)) :=
    (((((((Below.refl n0 w).setCell (p := ⟨b, 1, none⟩) hn (.int .i32 1)).trans (hb2.mono (by omega))).setCell (p := ⟨b, 3, none⟩) hn _).setCell (p := ⟨b, 4, none⟩) hn _).drew).setCell (p := ⟨b, 0, none⟩) hn _).setCell (p := ⟨b, 1, none⟩) hn _
  generalize ((((w2.setCell ⟨b, 3, none⟩ (.iface 168 (.pointer (some ⟨g, 0, none⟩)))).setCell ⟨b, 4, none⟩ (.slice none 0 0)).drew).setCell ⟨b, 0, none⟩ (.int .u32 1)).setCell ⟨b, 1, none⟩ (.int .i32 0) = w4 at *
  obtain ⟨c0, c1, c2, c3, c4⟩ := iCells5 (show w4.heap[b]? = some (.cells #[.int .u32 1, .int .i32 0, .int .u32 0, .iface 168 (.pointer (some ⟨g, 0, none⟩)), .slice none 0 0] 130 (0, 0)) from hr4)
  have HREP := hide hrep4
  clear hrep4 hr2 hr3 hr4 hrep HONE hrow1 hrow hO1 hstr1
  have hmt : ∀ w : World, (method 331 168 (.pointer (some ⟨g, 0, none⟩)) "Replace").run Tryz.prog w = .ok (198, .pointer (some ⟨g, 0, none⟩)) w := fun _ => by kernel_rfl
  go_wp2_with fail
  refine (bsr_any s hs _ g w4 HREP.out R HR.out).mono ?_
  rintro e w5 ⟨rfl, hb5⟩
  have hb6 : Below n0 w w5 := hb4.trans (hb5.mono (by have := hb4.size; omega))
  clear hmt hb5 c0 c1 c2 c3 c4
  go_wp2
  go_ret
  exact ⟨rfl, hb6⟩
set_option maxRecDepth 100000 in
set_option maxHeartbeats 4000000 in
theorem quoted_any (s : ByteArray) (hs : s.size ≤ 1073741824) (w : World) (R : ByteArray) (hR : Dg.B (Dg.quoteL (Dg.L s)) = R) :
    Calls Tryz.prog 50 #[.string s] w fun e w' => e = .returned (.string R) ∧ Below w.heap.size w w' := by
  have hRs : (⟨#[34]⟩ : ByteArray) ++ Dg.B (Dg.escL (Dg.L s)) ++ ⟨#[34]⟩ = R := by
    rw [← hR]
    apply Dg.L_inj
    rw [L_app, L_app, Dg.L_B, Dg.L_B]
    unfold Dg.quoteL
    rfl
  have hsz : (Dg.B (Dg.escL (Dg.L s))).size ≤ 2147483648 := by
    rw [Dg.size_B]
    have := Dg.escL_len (Dg.L s)
    rw [Dg.len_L] at this
    omega
  have hst := Strs.new w six #[.string ⟨#[92]⟩, .string ⟨#[92, 92]⟩, .string ⟨#[34]⟩, .string ⟨#[92, 34]⟩, .string ⟨#[10]⟩, .string ⟨#[92, 110]⟩] 9 rfl
  have hx := Below.news (Below.refl w.heap.size w) (.cells #[.string ⟨#[92]⟩, .string ⟨#[92, 92]⟩, .string ⟨#[34]⟩, .string ⟨#[92, 34]⟩, .string ⟨#[10]⟩, .string ⟨#[92, 110]⟩] 9)
  have HR := hide hRs
  clear hRs hR
  go_enter Tryz.func50, Tryz.ntmps50
  go_wp2_with fail
  generalize w.alloc (.cells #[.string ⟨#[92]⟩, .string ⟨#[92, 92]⟩, .string ⟨#[34]⟩, .string ⟨#[92, 34]⟩, .string ⟨#[10]⟩, .string ⟨#[92, 110]⟩] 9) = w1 at *
  refine (newrep_any _ 6 w1 hst).mono ?_
  rintro e w2 ⟨b, A, c, rfl, hrow, hO, _, hb, hb2⟩
  have hbb := bnext hx hb2
  clear hst
  go_wp2_with fail
  refine (replace_any s hs b w1.heap.size A c w2 hrow hO hb _ rfl).mono ?_
  rintro e w3 ⟨rfl, hb3⟩
  have hb4 : Below w.heap.size w w3 := hbb.trans (hb3.mono hx.size)
  generalize Dg.B (Dg.escL (Dg.L s)) = E at *
  clear hrow hO
  go_wp2
  go_ret
  exact ⟨ret_str HR.out, hb4⟩
end Go.Proofs.YtpldhempbdionaaGreatDoor
/- strings.Builder's WriteString with all that it leaves alone. No conditions but those that each theorem states. -/
namespace Go.Proofs.YtpldhempbdionaaGreatDoor
open Go Go.RowKit Go.Sort Go.Maps
/-- Where the bytes lie behind an append of a string. -/
theorem string_at (w : World) (ty : TypeId) (B : Nat) (v : Value) (l : List UInt8) (hown : OwnB w B v l) (s : ByteArray) (hlen : l.length + s.size ≤ 2199023255552) (hB : B ≤ w.heap.size) :
    ∃ v' w', (Builtin.append_ #[56, 9] ty #[v, .string s]).run Tryz.prog w = .ok v' w' ∧ OwnB w' B v' (l ++ Dg.L s) ∧ w.grownBy w' v.ownBlock ∧ (v'.ownBlock = v.ownBlock ∨ v'.ownBlock = some w.heap.size) := by
  obtain ⟨i, h1, h2, h3, h4⟩ := info_parts byteInfo
  obtain ⟨v', w', hrun, ho, hg, hnil⟩ := Lib.run_append_own_string (P := Tryz.prog) w B 56 9 ty 5 i Tryz.underlying56 Tryz.underlying9 h1 h2 h3 h4 v l.length _ hown s (by unfold maxLen; omega) (by omega) hB
  refine ⟨v', w', hrun, ?_, hg, ?_⟩
  · unfold OwnB
    rw [List.length_append, Lib.byteCells_append, Dg.len_L]
    exact ho
  · have hown2 : w.ownsRow B 5 1 v l.length (Lib.byteCells l) := hown
    obtain ⟨hl, hc⟩ := hown2
    rcases hc with ⟨rfl, hl0⟩ | ⟨g, cap, cur, rfl, _, hh, hle, _, hsz, hx⟩
    · by_cases hz : s.size = 0
      · exact Or.inl (by rw [hnil.2 ⟨rfl, hz⟩])
      · have hr2 := run_append_nil_string (P := Tryz.prog) w 56 9 ty 5 i (.int .u8 0) Tryz.underlying56 Tryz.underlying9 h1 h2 s (by omega) (by omega) (by rw [h4]; omega)
        rw [hrun] at hr2
        cases hr2
        exact Or.inr rfl
    · by_cases hroom : l.length + s.size ≤ cap
      · have hr2 := Lib.run_append_room_string (P := Tryz.prog) w 56 9 ty 5 i Tryz.underlying56 Tryz.underlying9 h1 h3 g l.length cap cur hh s hroom (by omega)
        rw [hrun] at hr2
        cases hr2
        exact Or.inl rfl
      · have hr2 := Lib.run_append_grow_string (P := Tryz.prog) w 56 9 ty 5 i (.int .u8 0) Tryz.underlying56 Tryz.underlying9 h1 h2 ⟨g, 0, none⟩ l.length cap (Lib.byteCells l) (by rw [h3]; simpa using hl) (fun j u hj => by
          rw [addr_off, Nat.zero_add, cell_of_row _ _ _ _ _ (0, 0) hh, ← Array.getElem?_toList]
          rw [← hx, List.getElem?_take] at hj
          split at hj
          · exact hj
          · cases hj) s (by omega) (by omega) (by
            rw [h4]
            exact growslice_fits (by omega) (by omega))
        rw [hrun] at hr2
        cases hr2
        exact Or.inr rfl
/-- A builder in block bb, its bytes the call's own from block n0 on. -/
structure BldAt (bb n0 : Nat) (W : World) (v : Value) (l : List UInt8) : Prop where
  row : ∃ p, (p = .pointer none ∨ p = .pointer (some ⟨bb, 0, none⟩)) ∧ W.heap[bb]? = some (.cells #[p, v] 69 (0, 0))
  own : OwnB W n0 v l
/-- What a write leaves of it. -/
def BldStep (bb n0 : Nat) (W W' : World) (v : Value) (l' : List UInt8) : Prop := ∃ v', BldAt bb n0 W' v' l' ∧ Off (outS bb v) W W' ∧ ∀ g, v'.ownBlock = some g → v.ownBlock = some g ∨ W.heap.size ≤ g
theorem OwnB.lt {w : World} {B : Nat} {v : Value} {l : List UInt8} (h : OwnB w B v l) {g : Nat} (hg : v.ownBlock = some g) : B ≤ g ∧ g < w.heap.size := OwnV.lt h.toV hg
theorem OwnB.same {w w' : World} {B : Nat} {v : Value} {l : List UInt8} (h : OwnB w B v l) (hg : ∀ g, v.ownBlock = some g → w'.heap[g]? = w.heap[g]?) : OwnB w' B v l := (OwnV.same h.toV hg).toB
theorem BldAt.same {bb n0 : Nat} {W W' : World} {v : Value} {l : List UInt8} (h : BldAt bb n0 W v l) (hg : ∀ g ∈ outS bb v, W'.heap[g]? = W.heap[g]?) : BldAt bb n0 W' v l :=
  ⟨by obtain ⟨p, hp, hr⟩ := h.row; exact ⟨p, hp, (hg bb (List.mem_cons_self ..)).trans hr⟩, h.own.same fun g hv => hg g (outS_own hv)⟩
theorem BldAt.next {bb n0 : Nat} {W W' : World} {v : Value} {l : List UInt8} (h : BldAt bb n0 W v l) (hb : Below W.heap.size W W') : BldAt bb n0 W' v l :=
  h.same fun g hg => hb.block g (by
    rcases mem_outS hg with rfl | e
    · obtain ⟨p, _, hr⟩ := h.row; exact lt_of_block hr
    · exact (h.own.lt e).2)
theorem iCells2 {w : World} {g : Nat} {a0 a1 : Value} {T : TypeId} (h : w.heap[g]? = some (.cells #[a0, a1] T (0, 0))) : w.cell? ⟨g, 0, none⟩ = some a0 ∧ w.cell? ⟨g, 1, none⟩ = some a1 := by
  refine ⟨?_, ?_⟩ <;> (rw [cell_of_row _ _ _ _ _ (0, 0) h]; rfl)
/-- copyCheck leaves the builder's address in it. -/
theorem cc_any (bb : Nat) (p v : Value) (hp : p = .pointer none ∨ p = .pointer (some ⟨bb, 0, none⟩)) (w : World) (hr : w.heap[bb]? = some (.cells #[p, v] 69 (0, 0))) :
    Calls Tryz.prog 84 #[.pointer (some ⟨bb, 0, none⟩)] w fun e w' => e = .returned (.tuple #[]) ∧ w'.heap[bb]? = some (.cells #[.pointer (some ⟨bb, 0, none⟩), v] 69 (0, 0)) ∧ Off [bb] w w' := by
  obtain ⟨c0, c1⟩ := iCells2 hr
  rcases hp with rfl | rfl
  · refine (Any.Builder_copyCheck_fresh (ρ := Tryz.renWS) { Tryz.layWS with } Tryz.extraWS.toX72 bb w c0 (by unfold World.shape?; rw [hr]; rfl) (frozen_of_row _ bb 0 _ _ hr)).mono ?_
    rintro e w' ⟨rfl, rfl⟩
    exact ⟨rfl, setCell_rowN hr 0 _, (Off.refl _ _).setCell (p := ⟨bb, 0, none⟩) (List.mem_singleton.2 rfl) _⟩
  · refine (Any.Builder_copyCheck_used (ρ := Tryz.renWS) { Tryz.layWS with } Tryz.extraWS.toX72 bb w c0).mono ?_
    rintro e w' ⟨rfl, rfl⟩
    exact ⟨rfl, hr, Off.refl _ _⟩
theorem step_bs {w : World} {ops : Array Oper} {rest : List Oper} {o : Oper} {a : Act} {Q : Exit → Act → World → Prop} (hgd : Region.wanted o (yielded ops a.tmps) = true) (sl x : Operand)
    (ho : o.op = .call { callee := .builtin .append, args := #[sl, x], argTypes := #[56, 9] })
    (B : Nat) (v : Value) (l : List UInt8) (hs : a.eval sl = v) (hown : OwnB w B v l) (s : ByteArray) (hx : a.eval x = .string s) (hlen : l.length + s.size ≤ 2199023255552) (hB : B ≤ w.heap.size)
    (h : ∀ v' w', OwnB w' B v' (l ++ Dg.L s) → w.grownBy w' v.ownBlock → (v'.ownBlock = v.ownBlock ∨ v'.ownBlock = some w.heap.size) → wpList Tryz.prog ops Q rest (a.put o.dst v') w') : wpList Tryz.prog ops Q (o :: rest) a w :=
  wpList_wanted hgd fun _ hK => by
    obtain ⟨v', w', hrun, h1, h2, h3⟩ := string_at w o.type B v l hown s hlen hB
    unfold Oper.wp execOp
    simp only [ho, resolve, invoke, builtin, Sem.run_bind, Sem.run_pure, Result.andThen_ok, List.map_toArray, List.map_cons, List.map_nil, hs, hx, hrun]
    exact hK _ _ (h v' w' h1 h2 h3)
set_option maxRecDepth 100000 in
set_option maxHeartbeats 4000000 in
theorem bwrite_any (bb n0 : Nat) (hbb : bb < n0) (s : ByteArray) (v : Value) (l : List UInt8) (w : World) (h : BldAt bb n0 w v l) (hlen : l.length + s.size ≤ 2199023255552) (hn : n0 ≤ w.heap.size) :
    Calls Tryz.prog 51 #[.pointer (some ⟨bb, 0, none⟩), .string s] w fun e w' => (∃ r, e = .returned r) ∧ BldStep bb n0 w w' v (l ++ Dg.L s) := by
  obtain ⟨p, hp, hr⟩ := h.row
  have hown := h.own
  go_enter Tryz.func51, Tryz.ntmps51
  go_wp2_with fail
  refine (cc_any bb p v hp w hr).mono ?_
  rintro e w1 ⟨rfl, hr1, ho1⟩
  have hown1 : OwnB w1 n0 v l := hown.same fun g hg => ho1.block g (hown.lt hg).2 (fun hm => by have := (hown.lt hg).1; rw [List.mem_singleton.1 hm] at this; omega)
  obtain ⟨c0, c1⟩ := iCells2 hr1
  have hn1 := Nat.le_trans hn ho1.size
  go_wp2_with (at_builtin; refine step_bs rfl (.tmp 12) (.tmp 13) rfl n0 v l rfl hown1 s rfl hlen hn1 ?_; intro v8 u8 hO8 hg8 hat8; obtain ⟨A8, c8, e8⟩ := hO8.form; rw [show (l ++ Dg.L s).length = l.length + s.size by rw [List.length_append, Dg.len_L]] at e8; subst e8; have hr8 : u8.heap[bb]? = some (.cells #[.pointer (some ⟨bb, 0, none⟩), v] 69 (0, 0)) := (hg8.block bb (lt_of_block hr1) (fun e => by have := (hown1.lt e.symm).1; omega)).trans hr1; have q8 := (iCells2 hr8).2; have fz8 := frozen_of_row _ bb 1 _ _ hr8)
  go_ret2
  refine ⟨⟨_, rfl⟩, _, ⟨⟨.pointer (some ⟨bb, 0, none⟩), Or.inr rfl, setCell_rowN hr8 1 _⟩, hO8.same fun g hg => Below.heap_setCell _ _ _ _ (show g ≠ bb by have := (hO8.lt hg).1; omega)⟩, ?_, fun g hg => ?_⟩
  · exact (((ho1.wide (fun g hg => by rw [List.mem_singleton.1 hg]; exact List.mem_cons_self ..)).trans (Off.of_grown (S := outS bb v) hg8 (fun g hg => outS_own hg)) (fun _ h => Or.inl h)).setCell (p := ⟨bb, 1, none⟩) (List.mem_cons_self ..) _)
  · rcases hat8 with e | e
    · exact Or.inl (e.symm.trans hg)
    · rw [e] at hg
      cases hg
      exact Or.inr ho1.size
end Go.Proofs.YtpldhempbdionaaGreatDoor

