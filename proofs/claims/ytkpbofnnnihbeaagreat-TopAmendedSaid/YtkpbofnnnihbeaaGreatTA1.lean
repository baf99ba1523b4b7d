/- Walks and laws of this seat, several texts in one. No conditions but those that each theorem states. -/
import Derived.WalkKit
import Derived.WalkSpells
import Derived.WalkLawsBesides
import Derived.Deep.QuietTactic
import Derived.BigQuiet
import Derived.Deep.DeepFit
import Derived.Laws.OwnMore
import Derived.Deep.AppendLies
import Derived.Deep.Draws
import Derived.Maps.AppendAt
import Derived.RegionTactic
import Derived.OwnWalk
import Derived.OrdersIn
import Derived.RangeFuncCalls
import Derived.Deep.RegionHeld
import Derived.Deep.RegionHeld3
import Derived.KernelRfl
import Derived.Shelf.Strings.Builder1
import Derived.Test.YtkpbofnnnihbeaaGreatProg
import Derived.Test.YtkpbofnnnihbeaaGreatShelg
import Derived.Shelf.Strings.SlTrimAscii
import Derived.Lib.LaidTab
import Derived.OneCell
import Derived.Lib.AppendStr
import Derived.Lib.QuietBelow
import Derived.Laws.Slices
import Derived.StillTailTactics
import Derived.Deep.RegionWith
import Derived.Deep.DeepCutAuto
import Derived.Laws.EntriesVeiled
import Derived.IntWalk
import Derived.Maps.Own
import Derived.Shelf.GgClosure.StringsRunes
import Derived.Maps.OwnOps
import Derived.Maps.Views
import Derived.ArgAppend
import Derived.StringKeys
import Derived.Lib.AppendZerosOnto
import Derived.Lib.SliceRun
import Derived.Below
import Derived.Laws.CopyOwn
set_option maxRecDepth 100000
set_option maxHeartbeats 16000000
set_option linter.unusedSimpArgs false
set_option linter.unusedVariables false
namespace Go.Proofs.YtkpbofnnnihbeaaGreat
open Go Go.RowKit Go.Sort Go.Maps Tryz
theorem hide {p : Prop} (h : p) : Hid p := h
theorem ret_bool {a b : Bool} (h : a = b) : Ending.returned (.bool a) = .returned (.bool b) := by rw [h]
section
variable {P : Program} {ops : Array Oper} {Q : Exit → Act → World → Prop} {md : Region.Mode}
theorem rows_wide {l n : Nat} {row : String} {args : Array Value} {w : World} {R : Value → World → Prop} (h : Rows P row args w R) : RowsIn (Fence.wide.inRound l) n P row args w R := fun c cs _ => by
 obtain ⟨v, w', r, s⟩ := h c cs
 exact ⟨v, w', r, (stepsIn_wide (P := P)).2 s⟩
theorem oper_round {l n : Nat} {o : Oper} {a : Act} {w : World} {K : Act → World → Prop} (hd : ∀ c, o.op ≠ .defer c) (h : o.wp P a w K Q) : o.wpIn (Fence.wide.inRound l) n P a w K Q := by
 unfold Oper.wpIn
 refine ⟨fun _ _ => trivial, ?_⟩
 rw [Oper.semAt_eq _ _ _ hd]
 unfold Oper.wp at h
 generalize (execOp a.eval o).run P w = r at *
 cases r with
 | ok x w' =>
  cases x <;> simp only [Oper.upon, Oper.uponIn] at h ⊢ <;>
   first
    | exact h
    | exact ⟨fun h => (by cases h), CallsIn.inRound l (callsIn_wide.2 h)⟩
    | exact ⟨fun h => (by cases h), rows_wide h⟩
 | halt x w' => cases x <;> simp only [Oper.upon, Oper.uponIn] at h ⊢ <;> exact h
end
section
variable {P : Program} {ops : Array Oper} {Q : Exit → Act → World → Prop} {md : Region.Mode} {S : World → Prop} {k : Nat}
def closedB (md : Region.Mode) (ops : Array Oper) (listed : Array Bool) : Bool :=
 (List.range ops.size).all fun j => !listed.getD j false || (match ops[j]? with | none => true | some o => o.after.all fun e => !Region.binds md e || listed.getD e.on false)
def waitsF (md : Region.Mode) (ops : Array Oper) : Nat → Nat → Nat → Bool
 | 0, _, _ => false
 | f + 1, k, i => match ops[k]? with | none => false | some o => o.after.any fun e => Region.binds md e && (e.on == i || waitsF md ops f e.on i)
theorem closed_spec {listed : Array Bool} (h : closedB md ops listed = true) {j : Nat} {o : Oper} (ho : ops[j]? = some o) (hj : listed.getD j false = true) : ∀ e ∈ o.after, Region.binds md e = true → listed.getD e.on false = true := fun e he hb => by
 unfold closedB at h
 have h1 := List.all_eq_true.1 h j (List.mem_range.2 (Array.getElem?_eq_some_iff.1 ho).1)
 rw [ho, hj] at h1
 simp only [Bool.not_true, Bool.false_or] at h1
 have h2 := Array.all_eq_true'.1 h1 e he
 rw [hb] at h2
 simpa using h2
theorem ready_after {listed : Array Bool} {j : Nat} {o : Oper} (ho : ops[j]? = some o) (hj : j ∈ Region.ready md ops listed) : ∀ e ∈ o.after, Region.binds md e = true → listed.getD e.on false = true := fun e he hb => by
 obtain ⟨_, o', ho', hall⟩ := mem_ready.1 hj
 obtain rfl : o = o' := Option.some.inj (ho.symm.trans ho')
 exact hall e he hb
theorem getD_set_same {listed : Array Bool} {j : Nat} (d : Bool) (h : j < listed.size) : (listed.setIfInBounds j true).getD j d = true := by
 simp [Array.getD, h]
theorem getD_false_true {listed : Array Bool} {j : Nat} (h : listed.getD j true = false) : listed.getD j false = false := by
 rcases Nat.lt_or_ge j listed.size with h1 | h1
 ·simp [h1] at h ⊢; exact h
 ·simp [Nat.not_lt.2 h1] at h
theorem closed_set {listed : Array Bool} (h : closedB md ops listed = true) {j : Nat} (hj : j ∈ Region.ready md ops listed) : closedB md ops (listed.setIfInBounds j true) = true := by
 unfold closedB
 refine List.all_eq_true.2 fun i hi => ?_
 have hmono : ∀ n, listed.getD n false = true → (listed.setIfInBounds j true).getD n false = true := fun n hn => by
  by_cases hjn : j = n
  ·subst hjn
   refine getD_set_same _ ?_
   rcases Nat.lt_or_ge j listed.size with h' | h'
   ·exact h'
   ·simp [Nat.not_lt.2 h'] at hn
  ·rw [getD_set_ne false hjn]; exact hn
 cases ho : ops[i]? with
 | none => simp
 | some o =>
  cases hl : (listed.setIfInBounds j true).getD i false with
  | false => simp
  | true =>
   simp only [Bool.not_true, Bool.false_or]
   refine Array.all_eq_true'.2 fun e he => ?_
   cases hb : Region.binds md e with
   | false => simp
   | true =>
    simp only [Bool.not_true, Bool.false_or]
    refine hmono _ ?_
    by_cases hji : j = i
    ·subst hji; exact ready_after ho hj e he hb
    ·rw [getD_set_ne false hji] at hl
     exact closed_spec h ho hl e he hb
theorem waits_spec {listed : Array Bool} (h : closedB md ops listed = true) : ∀ (f k i : Nat), waitsF md ops f k i = true → (∀ o, ops[k]? = some o → ∀ e ∈ o.after, Region.binds md e = true → listed.getD e.on false = true) → listed.getD i false = true
 | 0, _, _, hw, _ => by cases hw
 | f + 1, k, i, hw, hk => by
  unfold waitsF at hw
  cases ho : ops[k]? with
  | none => rw [ho] at hw; cases hw
  | some o =>
   rw [ho] at hw
   obtain ⟨e, he, hb⟩ := Array.any_eq_true'.1 hw
   rw [Bool.and_eq_true, Bool.or_eq_true] at hb
   have h1 := hk o ho e he hb.1
   rcases hb.2 with h2 | h2
   ·rw [beq_iff_eq] at h2; rw [← h2]; exact h1
   ·exact waits_spec h f e.on i h2 (fun o' ho' => closed_spec h ho' h1)
def SL (S : World → Prop) (k : Nat) (listed : Array Bool) (w : World) : Prop := listed.getD k false = true ∨ S w
def wpAnyL (P : Program) (md : Region.Mode) (ops : Array Oper) (Q : Exit → Act → World → Prop) (S : World → Prop) (k : Nat) : Nat → Array Bool → Act → World → Prop
 | 0, listed, a, w => Region.ready md ops listed = [] ∧ Q .normal a w
 | fuel + 1, listed, a, w =>
  (Region.ready md ops listed = [] → Q .normal a w) ∧
  ∀ i ∈ Region.ready md ops listed, wpOp P ops Q i (fun a' w' => SL S k (listed.setIfInBounds i true) w' ∧ wpAnyL P md ops Q S k fuel (listed.setIfInBounds i true) a' w') a w
theorem wpAny_of_L : ∀ (fuel : Nat) (listed : Array Bool) (a : Act) (w : World), wpAnyL P md ops Q S k fuel listed a w → wpAny P md ops Q fuel listed a w
 | 0, _, _, _, h => h
 | fuel + 1, _, _, _, h => ⟨h.1, fun i hi => wpOp_mono (fun a' w' h' => wpAny_of_L fuel _ a' w' h'.2) (h.2 i hi)⟩
theorem wpAnyL_first {i f0 : Nat} {oi : Oper} {v : Value} (hi : ops[i]? = some oi) (hsel : ∀ (j : Nat) (o : Oper) cs b, ops[j]? = some o → o.op ≠ .select cs b)
  (hQ : ∀ c a w, Q (.panic c) (a.put oi.dst v) w → Q (.panic c) a w) (hk : waitsF md ops f0 k i = true ∨ ops.size ≤ k) :
  ∀ (fuel : Nat) (listed : Array Bool) (a : Act) (w : World),
   (∀ j oj, ops[j]? = some oj → j ≠ i → listed.getD j true = false → (∀ e ∈ oj.after, Region.binds md e = true → e.on ≠ i) → oi.apart ops oj = true) →
   i ∈ Region.ready md ops listed → closedB md ops listed = true → listed.getD k false = false → YieldsIf P ops S oi v a → S w →
   wpAnyL P md ops Q S k fuel (listed.setIfInBounds i true) (a.put oi.dst v) w → wpAnyL P md ops Q S k (fuel + 1) listed a w := by
 intro fuel
 induction fuel with
 | zero =>
  intro listed a w _ hr _ _ hy hS H
  refine ⟨fun h => (by rw [h] at hr; cases hr), fun j hj => ?_⟩
  by_cases hji : j = i
  ·subst hji; exact hy.wpOp hi hS ⟨Or.inr hS, H⟩
  ·have := ready_mono hj hji
   rw [H.1] at this
   cases this
 | succ fuel ih =>
  intro listed a w hfree hr hcl hlk hy hS H
  refine ⟨fun h => (by rw [h] at hr; cases hr), fun j hj => ?_⟩
  by_cases hji : j = i
  ·subst hji; exact hy.wpOp hi hS ⟨Or.inr hS, H⟩
  ·have hiu := getD_false_true (mem_ready.1 hr).1
   have hall' : ∀ j, j ∈ Region.ready md ops listed → j ≠ k := fun j hj e => by
    subst e
    rcases hk with hk | hk
    ·have := waits_spec hcl f0 j i hk (fun o ho => ready_after ho hj)
     rw [hiu] at this
     cases this
    ·obtain ⟨_, o, ho, _⟩ := mem_ready.1 hj
     have := (Array.getElem?_eq_some_iff.1 ho).1
     omega
   have hjk := hall' j hj
   have hik := hall' i hr
   have h1 := H.2 j (ready_mono hj hji)
   obtain ⟨hjun, oj, hoj, hall⟩ := mem_ready.1 hj
   have hnot : ∀ e ∈ oj.after, Region.binds md e = true → e.on ≠ i := fun e he hb heq => by
    have h1 := hall e he hb
    rw [heq, hiu] at h1
    cases h1
   have h2 := wpOp_putIf hoj (hfree j oj hoj hji hjun hnot) (fun cs b => hsel i oi cs b hi) (fun cs b => hsel j oj cs b hoj) hQ hy h1
   have hfree' : ∀ n on, ops[n]? = some on → n ≠ i → (listed.setIfInBounds j true).getD n true = false →
     (∀ e ∈ on.after, Region.binds md e = true → e.on ≠ i) → oi.apart ops on = true := fun n on hn hni hun hno => by
    refine hfree n on hn hni ?_ hno
    by_cases hjn : j = n
    ·subst hjn; exact hjun
    ·rw [getD_set_ne true hjn] at hun; exact hun
   refine wpOp_mono (fun a' w' h3 => ?_) h2
   have hlk' : (listed.setIfInBounds j true).getD k false = false := by rw [getD_set_ne false hjk]; exact hlk
   have hS' : S w' := by
    rcases h3.2.1 with h4 | h4
    ·rw [getD_set_ne false hjk, getD_set_ne false hik, hlk] at h4
     cases h4
    ·exact h4
   refine ⟨Or.inr hS', ih (listed.setIfInBounds j true) a' w' hfree' (ready_mono hr (Ne.symm hji)) (closed_set hcl hj) hlk' h3.1 hS' ?_⟩
   rw [Array.setIfInBounds_comm _ _ hji]
   exact h3.2.2
theorem wpAnyL_take {i f0 : Nat} {oi : Oper} {v : Value} {fuel : Nat} {listed : Array Bool} {a : Act} {w : World} (hi : ops[i]? = some oi)
  (hs : Region.noSelect ops = true) (hf : Region.free md ops listed i = true) (hr : (Region.ready md ops listed).contains i = true)
  (hk : (waitsF md ops f0 k i || decide (ops.size ≤ k)) = true) (hcl : (closedB md ops listed && !listed.getD k false) = true)
  (hQ : ∀ c a w, Q (.panic c) (a.put oi.dst v) w → Q (.panic c) a w) (hy : YieldsIf P ops S oi v a) (hS : S w)
  (h : wpAnyL P md ops Q S k fuel (listed.setIfInBounds i true) (a.put oi.dst v) w) : wpAnyL P md ops Q S k (fuel + 1) listed a w := by
 rw [Bool.and_eq_true] at hcl
 rw [Bool.or_eq_true, decide_eq_true_eq] at hk
 exact wpAnyL_first hi (Region.noSelect_spec hs) hQ hk fuel listed a w (Region.free_spec hi hf) (by simpa using hr) hcl.1 (by simpa using hcl.2) hy hS h
theorem wpAnyL_one {i : Nat} {o : Oper} {fuel : Nat} {listed : Array Bool} {a : Act} {w : World} (hr : Region.ready md ops listed = [i]) (ho : ops[i]? = some o)
  (h : ∀ K' : Act → World → Prop, Hid (∀ a w, SL S k (listed.setIfInBounds i true) w → wpAnyL P md ops Q S k fuel (listed.setIfInBounds i true) a w → K' a w) → if Region.wanted o (yielded ops a.tmps) = true then Oper.wp P o a w K' Q else K' (a.put o.dst undef) w) : wpAnyL P md ops Q S k (fuel + 1) listed a w :=
 ⟨fun h0 => absurd (hr.symm.trans h0) (by simp), fun j hj => by
  rw [hr] at hj
  obtain rfl := List.mem_singleton.1 hj
  exact wpOp_step ho (fun K' hK => h K' (fun a w hS hW => hK a w ⟨hS, hW⟩))⟩
theorem wpAnyL_done {listed : Array Bool} {a : Act} {w : World} (hr : Region.ready md ops listed = []) (h : Q .normal a w) : ∀ fuel, wpAnyL P md ops Q S k fuel listed a w
 | 0 => ⟨hr, h⟩
 | _ + 1 => ⟨fun _ => h, by rw [hr]; simp⟩
theorem wp_region_L (S : World → Prop) (k : Nat) {id : Nat} {a : Act} {w : World} (hm : P.follows .mixedOrders = true) (h : wpAnyL P .any ops Q S k ops.size (Array.replicate ops.size false) a w.drew) : (Code.region id ops true).wp P Q a w :=
 wp_region_any hm (wpAny_of_L _ _ _ _ h)
end
section
variable {P : Program} {ops : Array Oper} {Q : Exit → Act → World → Prop} {md : Region.Mode} {S : World → Prop} {k : Nat}
theorem tkV (i f0 : Nat) {oi : Oper} (v : Value) {fuel : Nat} {listed : Array Bool} {a : Act} {w : World} (hi : ops[i]? = some oi) (hy : YieldsIf P ops S oi v a) (hS : S w)
    (h : wpAnyL P md ops Q S k fuel (listed.setIfInBounds i true) (a.put oi.dst v) w)
    (hs : Region.noSelect ops = true := by decide +kernel) (hf : Region.free md ops listed i = true := by decide +kernel) (hr : (Region.ready md ops listed).contains i = true := by decide +kernel)
    (hk : (waitsF md ops f0 k i || decide (ops.size ≤ k)) = true := by decide +kernel) (hcl : (closedB md ops listed && !listed.getD k false) = true := by decide +kernel)
    (hQ : ∀ c a w, Q (.panic c) (a.put oi.dst v) w → Q (.panic c) a w := by exact fun _ _ _ h => h) : wpAnyL P md ops Q S k (fuel + 1) listed a w :=
  wpAnyL_take (f0 := f0) hi hs hf hr hk hcl hQ hy hS h
theorem tkY (i f0 : Nat) {oi : Oper} (v : Value) {fuel : Nat} {listed : Array Bool} {a : Act} {w : World} (hi : ops[i]? = some oi) (hy : ∀ w, S w → (execOp a.eval oi).run P w = .ok (.value v) w) (hS : S w)
    (h : wpAnyL P md ops Q S k fuel (listed.setIfInBounds i true) (a.put oi.dst v) w)
    (hw : Region.wanted oi (yielded ops a.tmps) = true := by rfl)
    (hs : Region.noSelect ops = true := by decide +kernel) (hf : Region.free md ops listed i = true := by decide +kernel) (hr : (Region.ready md ops listed).contains i = true := by decide +kernel)
    (hk : (waitsF md ops f0 k i || decide (ops.size ≤ k)) = true := by decide +kernel) (hcl : (closedB md ops listed && !listed.getD k false) = true := by decide +kernel)
    (hQ : ∀ c a w, Q (.panic c) (a.put oi.dst v) w → Q (.panic c) a w := by exact fun _ _ _ h => h) : wpAnyL P md ops Q S k (fuel + 1) listed a w :=
  wpAnyL_take (f0 := f0) hi hs hf hr hk hcl hQ (.inl ⟨hw, hy⟩) hS h
theorem onY (i : Nat) {o : Oper} {fuel : Nat} {listed : Array Bool} {a : Act} {w : World} (ho : ops[i]? = some o)
    (h : ∀ K' : Act → World → Prop, Hid (∀ a w, SL S k (listed.setIfInBounds i true) w → wpAnyL P md ops Q S k fuel (listed.setIfInBounds i true) a w → K' a w) → Oper.wp P o a w K' Q)
    (hr : Region.ready md ops listed = [i] := by decide +kernel) (hw : Region.wanted o (yielded ops a.tmps) = true := by rfl) : wpAnyL P md ops Q S k (fuel + 1) listed a w :=
  wpAnyL_one hr ho fun K' hK => by rw [if_pos hw]; exact h K' hK
theorem dnY {listed : Array Bool} {a : Act} {w : World} {fuel : Nat} (h : Q .normal a w) (hr : Region.ready md ops listed = [] := by decide +kernel) : wpAnyL P md ops (NoPanic Q) S k fuel listed a w :=
  wpAnyL_done hr (NoPanic.normal h) fuel
end
theorem pu1 {α : Type} {xs : List α} {i : Nat} (h : i < xs.toArray.size) : xs.toArray[i] = xs[i]'(by simpa using h) := List.getElem_toArray h
theorem pu2 {α : Type} (a : α) (us : List α) (i : Nat) (h : i + 1 < (a :: us).length) : (a :: us)[i + 1] = us[i]'(Nat.lt_of_succ_lt_succ h) := List.getElem_cons_succ a us i h
theorem pu3 {α : Type} (a : α) (us : List α) (h : 0 < (a :: us).length) : (a :: us)[0] = a := List.getElem_cons_zero a us h
theorem pu4 {α : Type} (l : List α) (i : Nat) (a : α) : l.toArray.setIfInBounds i a = (l.set i a).toArray := List.setIfInBounds_toArray ..
theorem pu5 {α : Type} (a : α) (us : List α) (i : Nat) (b : α) : (a :: us).set (i + 1) b = a :: us.set i b := List.set_cons_succ ..
theorem pu6 {α : Type} (a : α) (us : List α) (b : α) : (a :: us).set 0 b = b :: us := List.set_cons_zero ..
section
variable {P : Program} {ops : Array Oper} {Q : Exit → Act → World → Prop} {md : Region.Mode} {S : World → Prop} {k : Nat}
theorem tU (i f0 : Nat) {oi : Oper} {v : Value} {fuel : Nat} {listed : Array Bool} {a a' : Act} {w : World} (hS : S w) (hi : ops[i]? = some oi)
    (h : wpAnyL P md ops Q S k fuel (listed.setIfInBounds i true) a' w)
    (hy : ∀ w, S w → (execOp a.eval oi).run P w = .ok (.value v) w := by intro wS hS; go_simp; (try with_reducible rfl))
    (ha : a.put oi.dst v = a' := by (simp only [Act.put, pu1, pu2, pu3, pu4, pu5, pu6]; rfl))
    (hw : Region.wanted oi (yielded ops a.tmps) = true := by rfl)
    (hs : Region.noSelect ops = true := by decide +kernel) (hf : Region.free md ops listed i = true := by decide +kernel) (hr : (Region.ready md ops listed).contains i = true := by decide +kernel)
    (hk : (waitsF md ops f0 k i || decide (ops.size ≤ k)) = true := by decide +kernel) (hcl : (closedB md ops listed && !listed.getD k false) = true := by decide +kernel)
    (hQ : ∀ c a w, Q (.panic c) (a.put oi.dst v) w → Q (.panic c) a w := by exact fun _ _ _ h => h) : wpAnyL P md ops Q S k (fuel + 1) listed a w := by
  subst ha
  exact wpAnyL_take (f0 := f0) hi hs hf hr hk hcl hQ (.inl ⟨hw, hy⟩) hS h
end
section
variable {P : Program} {ops : Array Oper} {Q : Exit → Act → World → Prop} {md : Region.Mode} {S : World → Prop} {k : Nat}
theorem SL_neZ {i : Nat} (hik : i ≠ k) {listed : Array Bool} {w : World} : SL S k (listed.setIfInBounds i true) w ↔ SL S k listed w := by
 unfold SL
 rw [getD_set_ne false hik]
theorem wpAnyL_firstZ {i : Nat} {oi : Oper} {v : Value} (hi : ops[i]? = some oi) (hsel : ∀ (j : Nat) (o : Oper) cs b, ops[j]? = some o → o.op ≠ .select cs b)
  (hQ : ∀ c a w, Q (.panic c) (a.put oi.dst v) w → Q (.panic c) a w) (hik : i ≠ k) :
  ∀ (fuel : Nat) (listed : Array Bool) (a : Act) (w : World),
   (∀ j oj, ops[j]? = some oj → j ≠ i → listed.getD j true = false → (∀ e ∈ oj.after, Region.binds md e = true → e.on ≠ i) → oi.apart ops oj = true) →
   i ∈ Region.ready md ops listed → YieldsIf P ops (fun _ => True) oi v a → SL S k listed w →
   wpAnyL P md ops Q S k fuel (listed.setIfInBounds i true) (a.put oi.dst v) w → wpAnyL P md ops Q S k (fuel + 1) listed a w := by
 intro fuel
 induction fuel with
 | zero =>
  intro listed a w _ hr hy hS H
  refine ⟨fun h => (by rw [h] at hr; cases hr), fun j hj => ?_⟩
  by_cases hji : j = i
  ·subst hji; exact hy.wpOp hi trivial ⟨(SL_neZ hik).2 hS, H⟩
  ·have := ready_mono hj hji
   rw [H.1] at this
   cases this
 | succ fuel ih =>
  intro listed a w hfree hr hy hS H
  refine ⟨fun h => (by rw [h] at hr; cases hr), fun j hj => ?_⟩
  by_cases hji : j = i
  ·subst hji; exact hy.wpOp hi trivial ⟨(SL_neZ hik).2 hS, H⟩
  ·have hiu := getD_false_true (mem_ready.1 hr).1
   have h1 := H.2 j (ready_mono hj hji)
   obtain ⟨hjun, oj, hoj, hall⟩ := mem_ready.1 hj
   have hnot : ∀ e ∈ oj.after, Region.binds md e = true → e.on ≠ i := fun e he hb heq => by
    have h1 := hall e he hb
    rw [heq, hiu] at h1
    cases h1
   have h2 := wpOp_putIf hoj (hfree j oj hoj hji hjun hnot) (fun cs b => hsel i oi cs b hi) (fun cs b => hsel j oj cs b hoj) hQ hy h1
   have hfree' : ∀ n on, ops[n]? = some on → n ≠ i → (listed.setIfInBounds j true).getD n true = false →
     (∀ e ∈ on.after, Region.binds md e = true → e.on ≠ i) → oi.apart ops on = true := fun n on hn hni hun hno => by
    refine hfree n on hn hni ?_ hno
    by_cases hjn : j = n
    ·subst hjn; exact hjun
    ·rw [getD_set_ne true hjn] at hun; exact hun
   refine wpOp_mono (fun a' w' h3 => ?_) h2
   have h4 : SL S k (listed.setIfInBounds j true) w' := by
    have := h3.2.1
    rw [Array.setIfInBounds_comm _ _ (Ne.symm hji)] at this
    exact (SL_neZ hik).1 this
   refine ⟨h4, ih (listed.setIfInBounds j true) a' w' hfree' (ready_mono hr (Ne.symm hji)) h3.1 h4 ?_⟩
   rw [Array.setIfInBounds_comm _ _ hji]
   exact h3.2.2
theorem wpAnyL_takeZ {i : Nat} {oi : Oper} {v : Value} {fuel : Nat} {listed : Array Bool} {a : Act} {w : World} (hi : ops[i]? = some oi)
  (hs : Region.noSelect ops = true) (hf : Region.free md ops listed i = true) (hr : (Region.ready md ops listed).contains i = true) (hik : i ≠ k)
  (hQ : ∀ c a w, Q (.panic c) (a.put oi.dst v) w → Q (.panic c) a w) (hy : YieldsIf P ops (fun _ => True) oi v a) (hS : SL S k listed w)
  (h : wpAnyL P md ops Q S k fuel (listed.setIfInBounds i true) (a.put oi.dst v) w) : wpAnyL P md ops Q S k (fuel + 1) listed a w :=
 wpAnyL_firstZ hi (Region.noSelect_spec hs) hQ hik fuel listed a w (Region.free_spec hi hf) (by simpa using hr) hy hS h
end
section
variable {F : Fence} {n : Nat} {P : Program} {ops : Array Oper} {Q : Exit → Act → World → Prop} {md : Region.Mode} {S : World → Prop} {k : Nat}
def YieldsN (P : Program) (ops : Array Oper) (S : World → Prop) (o : Oper) (v : Value) (a : Act) : Prop := YieldsIf P ops S o v a ∧ ∀ w, o.about P w a.eval = none
theorem YieldsN.wpOpIn {i : Nat} {o : Oper} {v : Value} {a : Act} (hro : F.round = none) (hi : ops[i]? = some o) (hy : YieldsN P ops S o v a)
  {K : Act → World → Prop} {w : World} (hS : S w) (h : K (a.put o.dst v) w) : wpOpIn F n P ops Q i K a w := by
 unfold Go.wpOpIn
 simp only [hi]
 have hab : ∀ f, o.about P w a.eval = some f → F.fn f := fun f hf => by rw [hy.2 w] at hf; cases hf
 rcases hy.1 with ⟨hw, hv⟩ | ⟨hw, rfl⟩
 ·simp only [hw, if_true, Oper.wpIn, hro, Oper.semAt_none, hv w hS, Oper.uponIn]; exact ⟨hab, h⟩
 ·simp only [hw, Bool.false_eq_true, if_false]; exact ⟨hab, h⟩
theorem YieldsN.of_same {o : Oper} {v : Value} {a a' : Act} (hy : YieldsN P ops S o v a) (he : execOp a'.eval o = execOp a.eval o)
  (hw : Region.wanted o (yielded ops a'.tmps) = Region.wanted o (yielded ops a.tmps)) (hb : ∀ w, o.about P w a'.eval = o.about P w a.eval) : YieldsN P ops S o v a' :=
 ⟨hy.1.of_same he hw, fun w => by rw [hb w]; exact hy.2 w⟩
theorem wpOpIn_putN {j : Nat} {oi oj : Oper} {v : Value} (hro : F.round = none) (hj : ops[j]? = some oj) (hap : oi.apart ops oj = true)
  (hsi : ∀ cs b, oi.op ≠ .select cs b) (hsj : ∀ cs b, oj.op ≠ .select cs b)
  (hQ : ∀ c a w, Q (.panic c) (a.put oi.dst v) w → Q (.panic c) a w) {K : Act → World → Prop} {a : Act} {w : World}
  (hy : YieldsN P ops S oi v a) (h : wpOpIn F n P ops Q j K (a.put oi.dst v) w) :
  wpOpIn F n P ops Q j (fun a' w' => YieldsN P ops S oi v a' ∧ K (a'.put oi.dst v) w') a w := by
 obtain ⟨h1, h2, h3⟩ := Oper.apart_spec hap
 have keep : ∀ (a : Act), YieldsN P ops S oi v a → ∀ u, YieldsN P ops S oi v (a.put oj.dst u) := fun a hy u =>
  hy.of_same (execOp_put oi hsi a oj.dst u h3) (wanted_put oi a oj.dst u h3) (fun w => about_put oi w a oj.dst u h3)
 have keepD : ∀ d, YieldsN P ops S oi v { a with defers := d :: a.defers } := fun d => hy.of_same rfl rfl (fun _ => rfl)
 unfold wpOpIn at *
 simp only [hj] at *
 rw [wanted_put oj a oi.dst v h1, about_put oj w a oi.dst v h1] at h
 split
 ·rename_i hw
  simp only [hw, if_true] at h
  unfold Oper.wpIn at *
  rw [about_put oj w a oi.dst v h1] at h
  refine ⟨h.1, ?_⟩
  have h := h.2
  rw [hro, Oper.semAt_none, execOp_put oj hsj a oi.dst v h1] at h
  rw [hro, Oper.semAt_none]
  generalize (execOp a.eval oj).run P w = r at *
  cases r with
  | ok x w' =>
   cases x <;> simp only [Oper.uponIn] at h ⊢
   case value u => exact ⟨keep a hy u, by rw [← Act.put_comm a v u h2]; exact h⟩
   case skip => exact ⟨keep a hy _, by rw [← Act.put_comm a v undef h2]; exact h⟩
   case defer d =>
    refine ⟨keep _ (keepD d) _, ?_⟩
    rw [← Act.put_comm _ v undef h2, ← Act.put_defers]
    exact h
   case enter f args =>
    refine ⟨h.1, CallsIn.mono h.2 fun e w'' he => ?_⟩
    cases e with
    | returned u => exact ⟨keep a hy u, by rw [← Act.put_comm a v u h2]; exact he⟩
    | panicked c => exact hQ _ _ _ he
    | outgrown => exact he
   case row row args => exact ⟨h.1, RowsIn.mono h.2 fun u w'' he => ⟨keep a hy u, by rw [← Act.put_comm a v u h2]; exact he⟩⟩
   case round l f tmps assign body =>
    refine ⟨h.1, RoundIn.mono h.2 fun e w'' he => ?_⟩
    cases e with
    | returned u => exact ⟨keep a hy u, by rw [← Act.put_comm a v u h2]; exact he⟩
    | panicked c => exact hQ _ _ _ he
    | outgrown => exact he
  | halt x w' =>
   cases x <;> simp only [Oper.uponIn] at h ⊢
   case panic u => exact hQ _ _ _ h
 ·rename_i hw
  simp only [hw] at h
  exact ⟨h.1, keep a hy _, by rw [← Act.put_comm a v undef h2]; exact h.2⟩
def wpAnyN (F : Fence) (n : Nat) (P : Program) (md : Region.Mode) (ops : Array Oper) (Q : Exit → Act → World → Prop) (S : World → Prop) (k : Nat) : Nat → Array Bool → Act → World → Prop
 | 0, listed, a, w => Region.ready md ops listed = [] ∧ Q .normal a w
 | fuel + 1, listed, a, w =>
  (Region.ready md ops listed = [] → Q .normal a w) ∧
  ∀ i ∈ Region.ready md ops listed, wpOpIn F n P ops Q i (fun a' w' => SL S k (listed.setIfInBounds i true) w' ∧ wpAnyN F n P md ops Q S k fuel (listed.setIfInBounds i true) a' w') a w
theorem wpAnyIn_of_N : ∀ (fuel : Nat) (listed : Array Bool) (a : Act) (w : World), wpAnyN F n P md ops Q S k fuel listed a w → wpAnyIn F n P md ops Q fuel listed a w
 | 0, _, _, _, h => h
 | fuel + 1, _, _, _, h => ⟨h.1, fun i hi => wpOpIn_mono (fun a' w' h' => wpAnyIn_of_N fuel _ a' w' h'.2) (h.2 i hi)⟩
theorem wpAnyN_first {i f0 : Nat} {oi : Oper} {v : Value} (hro : F.round = none) (hi : ops[i]? = some oi) (hsel : ∀ (j : Nat) (o : Oper) cs b, ops[j]? = some o → o.op ≠ .select cs b)
  (hQ : ∀ c a w, Q (.panic c) (a.put oi.dst v) w → Q (.panic c) a w) (hk : waitsF md ops f0 k i = true ∨ ops.size ≤ k) :
  ∀ (fuel : Nat) (listed : Array Bool) (a : Act) (w : World),
   (∀ j oj, ops[j]? = some oj → j ≠ i → listed.getD j true = false → (∀ e ∈ oj.after, Region.binds md e = true → e.on ≠ i) → oi.apart ops oj = true) →
   i ∈ Region.ready md ops listed → closedB md ops listed = true → listed.getD k false = false → YieldsN P ops S oi v a → S w →
   wpAnyN F n P md ops Q S k fuel (listed.setIfInBounds i true) (a.put oi.dst v) w → wpAnyN F n P md ops Q S k (fuel + 1) listed a w := by
 intro fuel
 induction fuel with
 | zero =>
  intro listed a w _ hr _ _ hy hS H
  refine ⟨fun h => (by rw [h] at hr; cases hr), fun j hj => ?_⟩
  by_cases hji : j = i
  ·subst hji; exact hy.wpOpIn hro hi hS ⟨Or.inr hS, H⟩
  ·have := ready_mono hj hji
   rw [H.1] at this
   cases this
 | succ fuel ih =>
  intro listed a w hfree hr hcl hlk hy hS H
  refine ⟨fun h => (by rw [h] at hr; cases hr), fun j hj => ?_⟩
  by_cases hji : j = i
  ·subst hji; exact hy.wpOpIn hro hi hS ⟨Or.inr hS, H⟩
  ·have hiu := getD_false_true (mem_ready.1 hr).1
   have hall' : ∀ j, j ∈ Region.ready md ops listed → j ≠ k := fun j hj e => by
    subst e
    rcases hk with hk | hk
    ·have := waits_spec hcl f0 j i hk (fun o ho => ready_after ho hj)
     rw [hiu] at this
     cases this
    ·obtain ⟨_, o, ho, _⟩ := mem_ready.1 hj
     have := (Array.getElem?_eq_some_iff.1 ho).1
     omega
   have hjk := hall' j hj
   have hik := hall' i hr
   have h1 := H.2 j (ready_mono hj hji)
   obtain ⟨hjun, oj, hoj, hall⟩ := mem_ready.1 hj
   have hnot : ∀ e ∈ oj.after, Region.binds md e = true → e.on ≠ i := fun e he hb heq => by
    have h1 := hall e he hb
    rw [heq, hiu] at h1
    cases h1
   have h2 := wpOpIn_putN hro hoj (hfree j oj hoj hji hjun hnot) (fun cs b => hsel i oi cs b hi) (fun cs b => hsel j oj cs b hoj) hQ hy h1
   have hfree' : ∀ n on, ops[n]? = some on → n ≠ i → (listed.setIfInBounds j true).getD n true = false →
     (∀ e ∈ on.after, Region.binds md e = true → e.on ≠ i) → oi.apart ops on = true := fun n on hn hni hun hno => by
    refine hfree n on hn hni ?_ hno
    by_cases hjn : j = n
    ·subst hjn; exact hjun
    ·rw [getD_set_ne true hjn] at hun; exact hun
   refine wpOpIn_mono (fun a' w' h3 => ?_) h2
   have hlk' : (listed.setIfInBounds j true).getD k false = false := by rw [getD_set_ne false hjk]; exact hlk
   have hS' : S w' := by
    rcases h3.2.1 with h4 | h4
    ·rw [getD_set_ne false hjk, getD_set_ne false hik, hlk] at h4
     cases h4
    ·exact h4
   refine ⟨Or.inr hS', ih (listed.setIfInBounds j true) a' w' hfree' (ready_mono hr (Ne.symm hji)) (closed_set hcl hj) hlk' h3.1 hS' ?_⟩
   rw [Array.setIfInBounds_comm _ _ hji]
   exact h3.2.2
theorem wpAnyN_take {i f0 : Nat} {oi : Oper} {v : Value} {fuel : Nat} {listed : Array Bool} {a : Act} {w : World} (hro : F.round = none) (hi : ops[i]? = some oi)
  (hs : Region.noSelect ops = true) (hf : Region.free md ops listed i = true) (hr : (Region.ready md ops listed).contains i = true)
  (hk : (waitsF md ops f0 k i || decide (ops.size ≤ k)) = true) (hcl : (closedB md ops listed && !listed.getD k false) = true)
  (hQ : ∀ c a w, Q (.panic c) (a.put oi.dst v) w → Q (.panic c) a w) (hy : YieldsN P ops S oi v a) (hS : S w)
  (h : wpAnyN F n P md ops Q S k fuel (listed.setIfInBounds i true) (a.put oi.dst v) w) : wpAnyN F n P md ops Q S k (fuel + 1) listed a w := by
 rw [Bool.and_eq_true] at hcl
 rw [Bool.or_eq_true, decide_eq_true_eq] at hk
 exact wpAnyN_first hro hi (Region.noSelect_spec hs) hQ hk fuel listed a w (Region.free_spec hi hf) (by simpa using hr) hcl.1 (by simpa using hcl.2) hy hS h
theorem wpAnyN_one {i : Nat} {o : Oper} {fuel : Nat} {listed : Array Bool} {a : Act} {w : World} (hr : Region.ready md ops listed = [i]) (ho : ops[i]? = some o)
  (h : ∀ K' : Act → World → Prop, Hid (∀ a w, SL S k (listed.setIfInBounds i true) w → wpAnyN F n P md ops Q S k fuel (listed.setIfInBounds i true) a w → K' a w) → if Region.wanted o (yielded ops a.tmps) = true then Oper.wpIn F n P o a w K' Q else (∀ f, o.about P w a.eval = some f → F.fn f) ∧ K' (a.put o.dst undef) w) : wpAnyN F n P md ops Q S k (fuel + 1) listed a w :=
 ⟨fun h0 => absurd (hr.symm.trans h0) (by simp), fun j hj => by
  rw [hr] at hj
  obtain rfl := List.mem_singleton.1 hj
  exact wpOpIn_step ho (fun K' hK => h K' (fun a w hS hW => hK a w ⟨hS, hW⟩))⟩
theorem wpAnyN_done {listed : Array Bool} {a : Act} {w : World} (hr : Region.ready md ops listed = []) (h : Q .normal a w) : ∀ fuel, wpAnyN F n P md ops Q S k fuel listed a w
 | 0 => ⟨hr, h⟩
 | _ + 1 => ⟨fun _ => h, by rw [hr]; simp⟩
theorem wpIn_region_N (S : World → Prop) (k : Nat) {id : Nat} {a : Act} {w : World} (hm : P.follows .mixedOrders = true) (h : wpAnyN F n P .any ops Q S k ops.size (Array.replicate ops.size false) a w.drew) : (Code.region id ops true).wpIn F n P Q a w :=
 wpIn_region_any hm (wpAnyIn_of_N _ _ _ _ h)
end
section
variable {P : Program} {ops : Array Oper} {Q : Exit → Act → World → Prop} {md : Region.Mode} {S : World → Prop} {k : Nat}
theorem tZ (i : Nat) (v : Value) {oi : Oper} {fuel : Nat} {listed : Array Bool} {a : Act} {w : World} (hi : ops[i]? = some oi)
    (hy : ∀ w, (fun _ : World => True) w → (execOp a.eval oi).run P w = .ok (.value v) w) (hS : SL S k listed w)
    (h : wpAnyL P md ops Q S k fuel (listed.setIfInBounds i true) (a.put oi.dst v) w)
    (hw : Region.wanted oi (yielded ops a.tmps) = true := by rfl)
    (hs : Region.noSelect ops = true := by decide +kernel) (hf : Region.free md ops listed i = true := by decide +kernel) (hr : (Region.ready md ops listed).contains i = true := by decide +kernel) (hik : i ≠ k := by decide)
    (hQ : ∀ c a w, Q (.panic c) (a.put oi.dst v) w → Q (.panic c) a w := by exact fun _ _ _ h => h) : wpAnyL P md ops Q S k (fuel + 1) listed a w :=
  wpAnyL_takeZ hi hs hf hr hik hQ (.inl ⟨hw, hy⟩) hS h
theorem oY (i : Nat) {o : Oper} {fuel : Nat} {listed : Array Bool} {a : Act} {w : World}
    (h : ∀ K' : Act → World → Prop, Hid (∀ a w, SL S k (listed.setIfInBounds i true) w → wpAnyL P md ops Q S k fuel (listed.setIfInBounds i true) a w → K' a w) → Oper.wp P o a w K' Q)
    (ho : ops[i]? = some o := by rfl)
    (hr : Region.ready md ops listed = [i] := by decide +kernel) (hw : Region.wanted o (yielded ops a.tmps) = true := by rfl) : wpAnyL P md ops Q S k (fuel + 1) listed a w :=
  onY i ho h hr hw
variable {F : Fence} {n : Nat}
theorem tN (i f0 : Nat) (v : Value) {oi : Oper} {fuel : Nat} {listed : Array Bool} {a : Act} {w : World} (hro : F.round = none) (hi : ops[i]? = some oi)
    (hy : ∀ w, S w → (execOp a.eval oi).run P w = .ok (.value v) w) (hS : S w)
    (h : wpAnyN F n P md ops Q S k fuel (listed.setIfInBounds i true) (a.put oi.dst v) w)
    (hw : Region.wanted oi (yielded ops a.tmps) = true := by rfl) (hb : ∀ w, oi.about P w a.eval = none := by exact fun _ => rfl)
    (hs : Region.noSelect ops = true := by decide +kernel) (hf : Region.free md ops listed i = true := by decide +kernel) (hr : (Region.ready md ops listed).contains i = true := by decide +kernel)
    (hk : (waitsF md ops f0 k i || decide (ops.size ≤ k)) = true := by decide +kernel) (hcl : (closedB md ops listed && !listed.getD k false) = true := by decide +kernel)
    (hQ : ∀ c a w, Q (.panic c) (a.put oi.dst v) w → Q (.panic c) a w := by exact fun _ _ _ h => h) : wpAnyN F n P md ops Q S k (fuel + 1) listed a w :=
  wpAnyN_take (f0 := f0) hro hi hs hf hr hk hcl hQ ⟨.inl ⟨hw, hy⟩, hb⟩ hS h
theorem tM (i f0 : Nat) {oi : Oper} {fuel : Nat} {listed : Array Bool} {a : Act} {w : World} (hro : F.round = none) (hi : ops[i]? = some oi) (hS : S w)
    (h : wpAnyN F n P md ops Q S k fuel (listed.setIfInBounds i true) (a.put oi.dst undef) w)
    (hw : Region.wanted oi (yielded ops a.tmps) = false := by rfl) (hb : ∀ w, oi.about P w a.eval = none := by exact fun _ => rfl)
    (hs : Region.noSelect ops = true := by decide +kernel) (hf : Region.free md ops listed i = true := by decide +kernel) (hr : (Region.ready md ops listed).contains i = true := by decide +kernel)
    (hk : (waitsF md ops f0 k i || decide (ops.size ≤ k)) = true := by decide +kernel) (hcl : (closedB md ops listed && !listed.getD k false) = true := by decide +kernel)
    (hQ : ∀ c a w, Q (.panic c) (a.put oi.dst undef) w → Q (.panic c) a w := by exact fun _ _ _ h => h) : wpAnyN F n P md ops Q S k (fuel + 1) listed a w :=
  wpAnyN_take (f0 := f0) hro hi hs hf hr hk hcl hQ ⟨.inr ⟨hw, rfl⟩, hb⟩ hS h
end
theorem pu : (∀ {α : Type} {xs : List α} {i : Nat} (h : i < xs.toArray.size), xs.toArray[i] = xs[i]'(by simpa using h)) ∧
    (∀ {α : Type} (a : α) (us : List α) (i : Nat) (h : i + 1 < (a :: us).length), (a :: us)[i + 1] = us[i]'(Nat.lt_of_succ_lt_succ h)) ∧
    (∀ {α : Type} (a : α) (us : List α) (h : 0 < (a :: us).length), (a :: us)[0] = a) ∧
    (∀ {α : Type} (l : List α) (i : Nat) (a : α), l.toArray.setIfInBounds i a = (l.set i a).toArray) ∧
    (∀ {α : Type} (a : α) (us : List α) (i : Nat) (b : α), (a :: us).set (i + 1) b = a :: us.set i b) ∧
    (∀ {α : Type} (a : α) (us : List α) (b : α), (a :: us).set 0 b = b :: us) := ⟨@pu1, @pu2, @pu3, @pu4, @pu5, @pu6⟩
theorem nwB (w : World) (o : Obj) : Below w.heap.size w (w.alloc o) := (Below.refl _ _).alloc (Nat.le_refl _) o
theorem hmxQ : Tryz.prog.follows .mixedOrders = true := by kernel_rfl
namespace Dg
def M : Nat := 18446744073709551616
def mix (x : Nat) : Nat :=
 let a := x * 6364136223846793005 % M
 let b := a ^^^ (a >>> 31)
 let c := b * 3202034522624059733 % M
 c ^^^ (c >>> 30)
def blkTo (l : List UInt8) : Nat → Nat
 | 0 => 0
 | i + 1 => blkTo l i * 256 + (l.getD i 0).toNat
def blk (l : List UInt8) : Nat := blkTo l 8
def run : Nat → Nat → List UInt8 → Nat
 | 0, s, _ => s
 | k + 1, s, l => run k (mix (s ^^^ blk l)) (l.drop 8)
def state (l : List UInt8) : Nat := run (l.length / 8 + 1) (1442695040888963407 ^^^ l.length) l
def hexDigit (n : Nat) : UInt8 := if n < 10 then UInt8.ofNat (48 + n) else UInt8.ofNat (87 + n)
def hexTo (s : Nat) : Nat → List UInt8
 | 0 => []
 | i + 1 => hexTo s i ++ [hexDigit (s / 16 ^ (15 - i) % 16)]
def hex (s : Nat) : List UInt8 := hexTo s 16
def sum (l : List UInt8) : List UInt8 := hex (state l)
def decF : Nat → Nat → List UInt8
 | 0, _ => []
 | f + 1, n => if n < 10 then [UInt8.ofNat (48 + n)] else decF f (n / 10) ++ [UInt8.ofNat (48 + n % 10)]
def dec (n : Nat) : List UInt8 := decF 20 n
def joined (l : List (List UInt8)) : List UInt8 := l.flatMap fun s => dec s.length ++ 58 :: s
def list (l : List (List UInt8)) : List UInt8 := sum (joined l)
def isDig (c : UInt8) : Bool := (48 ≤ c && c ≤ 57) || (97 ≤ c && c ≤ 102)
def is (l : List UInt8) : Bool := l.length == 16 && l.all isDig
def B (l : List UInt8) : ByteArray := ⟨l.toArray⟩
def L (s : ByteArray) : List UInt8 := s.data.toList
theorem len_L (s : ByteArray) : (L s).length = s.size := Array.length_toList
def joinedL (l : List ByteArray) : List UInt8 := joined (l.map L)
def listB (l : List ByteArray) : ByteArray := B (list (l.map L))
def few (l : List ByteArray) (n : Int) : Bool := decide (l.length ≤ 30 ∧ ∀ s ∈ l, (s.size : Int) ≤ n)
def same (a b : List ByteArray) : Bool := decide (a = b)
end Dg
namespace Dg
def halfF : Nat → Nat → Nat → Nat
 | 0, k, _ => k
 | f + 1, k, n => if 2 * k < n then halfF f (2 * k) n else k
def half (n : Nat) : Nat := halfF n 1 n
def sEmpty : ByteArray := ⟨#[101, 109, 112, 116, 121]⟩
def sLeaf : ByteArray := ⟨#[108, 101, 97, 102]⟩
def sNode : ByteArray := ⟨#[110, 111, 100, 101]⟩
def emptyB : ByteArray := listB [sEmpty]
def leafB (s : ByteArray) : ByteArray := listB [sLeaf, s]
def nodeB (a b : ByteArray) : ByteArray := listB [sNode, a, b]
def rootF : Nat → List ByteArray → ByteArray
 | 0, _ => emptyB
 | _ + 1, [] => emptyB
 | _ + 1, [s] => leafB s
 | f + 1, s :: t :: r => nodeB (rootF f ((s :: t :: r).take (half (r.length + 2)))) (rootF f ((s :: t :: r).drop (half (r.length + 2))))
def root (l : List ByteArray) : ByteArray := rootF l.length l
end Dg
namespace Dg
def lengthF : Nat → Nat → Nat → Nat
 | 0, _, _ => 0
 | f + 1, n, i => if n ≤ 1 then 0 else if i < half n then 1 + lengthF f (half n) i else 1 + lengthF f (n - half n) (i - half n)
def length (n i : Nat) : Nat := lengthF n n i
def upF : Nat → Nat → Nat → ByteArray → List ByteArray → ByteArray
 | 0, _, _, d, _ => d
 | f + 1, n, i, d, r => if n ≤ 1 then d else if i < half n then nodeB (upF f (half n) i d r.tail) (r.headD ⟨#[]⟩) else nodeB (r.headD ⟨#[]⟩) (upF f (n - half n) (i - half n) d r.tail)
def up (n i : Nat) (d : ByteArray) (r : List ByteArray) : ByteArray := upF n n i d r
end Dg
structure Strs (w : World) (B : Nat) (A : Option Addr) (l : List ByteArray) : Prop where
 at_ : 0 < l.length → ∃ b off, A = some ⟨b, off, none⟩ ∧ b < B ∧ ∀ (j : Nat) (s : ByteArray), l[j]? = some s → w.cell? ⟨b, off + j, none⟩ = some (.string s)
theorem Strs.nil (w : World) (B : Nat) (A : Option Addr) : Strs w B A [] := ⟨fun h => by simp at h⟩
theorem Strs.keep {w w' : World} {B : Nat} {A : Option Addr} {l : List ByteArray} (h : Strs w B A l) (hk : ∀ p : Addr, p.block < B → w'.cell? p = w.cell? p) : Strs w' B A l :=
 ⟨fun hl => by
  obtain ⟨b, off, e, hb, hc⟩ := h.at_ hl
  exact ⟨b, off, e, hb, fun j s hj => (hk _ hb).trans (hc j s hj)⟩⟩
theorem Strs.below {w w' : World} {B : Nat} {A : Option Addr} {l : List ByteArray} (h : Strs w B A l) (hb : Below B w w') : Strs w' B A l := h.keep fun _ hp => hb.cell hp
theorem Strs.more {w : World} {B B' : Nat} {A : Option Addr} {l : List ByteArray} (h : Strs w B A l) (hB : B ≤ B') : Strs w B' A l :=
 ⟨fun hl => by
  obtain ⟨b, off, e, hb, hc⟩ := h.at_ hl
  exact ⟨b, off, e, by omega, hc⟩⟩
theorem own_below {w w' : World} {base : Nat} {e : TypeId} {size : Nat} {v : Value} {n : Nat} {xs : List Value} (h : w.ownsRow base e size v n xs) (hb : Below w.heap.size w w') : w'.ownsRow base e size v n xs := by
 obtain ⟨h1, h2⟩ := h
 refine ⟨h1, ?_⟩
 rcases h2 with h2 | ⟨g, cap, cur, hv, hg, hh, r⟩
 ·exact Or.inl h2
 ·exact Or.inr ⟨g, cap, cur, hv, hg, by rw [hb.block g (lt_of_block hh)]; exact hh, r⟩
def OwnV (w : World) (B : Nat) (e : TypeId) (v : Value) (xs : List Value) : Prop := w.ownsRow B e 1 v xs.length xs
theorem OwnV.nil (w : World) (B : Nat) (e : TypeId) : OwnV w B e (.slice none 0 0) [] := World.ownsRow_nil w B e 1
theorem OwnV.below {w w' : World} {B : Nat} {e : TypeId} {v : Value} {xs : List Value} (h : OwnV w B e v xs) (hb : Below w.heap.size w w') : OwnV w' B e v xs := own_below h hb
theorem strInfo : (Tryz.prog.info? 9).map (fun i => (i.zero, i.size, i.bytes)) = some (some (.string ⟨#[]⟩), 1, 16) := by kernel_rfl
theorem below_drewN {B : Nat} {a w : World} (h : Below B a w) (n : Nat) : Below B a (w.drewN n) := ⟨h.os, h.tape, h.output, h.size, h.block⟩
theorem bnext {w w1 w2 : World} (h : Below w.heap.size w w1) (h' : Below w1.heap.size w1 w2) : Below w.heap.size w w2 := h.trans (h'.mono h.size)
theorem keepS {w w' : World} {A : Option Addr} {l : List ByteArray} (h : Strs w w.heap.size A l) (hb : Below w.heap.size w w') : Strs w' w'.heap.size A l := (h.below hb).more hb.size
theorem mem2 {a b : ByteArray} {n : Nat} (ha : a.size ≤ n) (hb : b.size ≤ n) : ∀ s ∈ [a, b], s.size ≤ n := fun s hs => by
 rcases List.mem_cons.1 hs with rfl | hs
 ·exact ha
 ·rw [List.mem_singleton.1 hs]; exact hb
theorem addr_off (b off k : Nat) : Addr.add ⟨b, off, none⟩ k = ⟨b, off + k, none⟩ := by
 unfold Addr.add
 by_cases h : k = 0
 ·rw [if_pos h, h, Nat.add_zero]
 ·rw [if_neg h]
def OwnS (w : World) (B : Nat) (v : Value) (l : List ByteArray) : Prop := OwnV w B 9 v (l.map .string)
theorem OwnS.nil (w : World) (B : Nat) : OwnS w B (.slice none 0 0) [] := OwnV.nil _ _ _
theorem OwnS.below {w w' : World} {B : Nat} {v : Value} {l : List ByteArray} (h : OwnS w B v l) (hb : Below w.heap.size w w') : OwnS w' B v l := OwnV.below h hb
theorem OwnS.cases {w : World} {B : Nat} {v : Value} {l : List ByteArray} (h : OwnS w B v l) : (v = .slice none 0 0 ∧ l = []) ∨
  ∃ g cap, v = .slice (some ⟨g, 0, none⟩) l.length cap ∧ B ≤ g ∧ g < w.heap.size ∧ l.length ≤ cap ∧ (∀ j (s : ByteArray), l[j]? = some s → w.cell? ⟨g, j, none⟩ = some (.string s)) ∧ (∀ j, w.frozen? ⟨g, j, none⟩ = false) := by
 obtain ⟨hl, h⟩ := h
 rw [List.length_map] at h hl
 rcases h with ⟨rfl, h0⟩ | ⟨g, cap, cur, rfl, hB, hg, hc, _, hsz, hx⟩
 ·exact Or.inl ⟨rfl, List.length_eq_zero_iff.1 h0⟩
 ·refine Or.inr ⟨g, cap, rfl, hB, lt_of_block hg, hc, fun j s hj => ?_, fun j => frozen_of_row _ _ _ _ _ hg⟩
  rw [cell_of_row _ _ _ _ _ (0, 0) hg, ← Array.getElem?_toList]
  have h1 : (cur.toList.take (l.length * 1))[j]? = some (.string s) := by rw [hx, List.getElem?_map, hj]; rfl
  rw [List.getElem?_take] at h1
  split at h1
  ·exact h1
  ·exact absurd h1 (by simp)
theorem OwnS.strs {w : World} {B : Nat} {v : Value} {l : List ByteArray} (h : OwnS w B v l) : ∃ A c, v = .slice A l.length c ∧ l.length ≤ c ∧ Strs w w.heap.size A l := by
 rcases h.cases with ⟨rfl, rfl⟩ | ⟨g, cap, rfl, _, hg, hc, hcell, _⟩
 ·exact ⟨none, 0, rfl, by simp, Strs.nil _ _ _⟩
 ·exact ⟨_, cap, rfl, hc, ⟨fun _ => ⟨g, 0, rfl, hg, fun j s hj => by rw [Nat.zero_add]; exact hcell j s hj⟩⟩⟩
namespace Dg
def jB (l : List ByteArray) : ByteArray := B (joinedL l)
def Z : Nat := 1099511627776
def textsF : Nat → List ByteArray → List ByteArray
 | 0, _ => [jB [sEmpty]]
 | _ + 1, [] => [jB [sEmpty]]
 | _ + 1, [s] => [jB [sLeaf, s]]
 | f + 1, s :: t :: r => (textsF f ((s :: t :: r).take (half (r.length + 2))) ++ textsF f ((s :: t :: r).drop (half (r.length + 2)))) ++ [jB [sNode, root ((s :: t :: r).take (half (r.length + 2))), root ((s :: t :: r).drop (half (r.length + 2)))]]
def texts (l : List ByteArray) : List ByteArray := textsF l.length l
end Dg
namespace Dg
def wayF : Nat → Nat → Nat → List Bool
 | 0, _, _ => []
 | f + 1, n, m => if m = n then [] else if m ≤ half n then true :: wayF f (half n) m else false :: wayF f (n - half n) (m - half n)
def way (n m : Nat) : List Bool := wayF n n m
end Dg
theorem Below.news {w W : World} (_h : Below w.heap.size w W) (o : Obj) : Below W.heap.size W (W.alloc o) := (Below.refl _ _).alloc (Nat.le_refl _) o
theorem wpList_wanted {P : Program} {ops : Array Oper} {Q : Exit → Act → World → Prop} {a : Act} {w : World} {rest : List Oper} {o : Oper} (hw : Region.wanted o (yielded ops a.tmps) = true)
  (h : ∀ K : Act → World → Prop, (∀ a w, wpList P ops Q rest a w → K a w) → o.wp P a w K Q) : wpList P ops Q (o :: rest) a w :=
 wpList_step fun K hK => by rw [if_pos hw]; exact h K hK
theorem run_append_none {P : Program} {w : World} (base : Nat) (t ty e : TypeId) (i : TypeInfo) (size : Nat) (ht : P.underlying t = some (.slice e)) (hi : P.info? e = some i) (v : Value) (n : Nat) (xs : List Value) (hown : w.ownsRow base e size v n xs) (c : Nat) :
  (Builtin.append_ #[t, t] ty #[v, .slice none 0 c]).run P w = .ok v w := by
 rcases hown.2 with ⟨rfl, rfl⟩ | ⟨g, cap, cur, rfl, _, _, hnc, _⟩
 ·simp [Builtin.append_, run_underlying ht, sizeOf, typeInfo, hi, Builtin.lenOf, Builtin.firstCells]
 ·simp [Builtin.append_, run_underlying ht, sizeOf, typeInfo, hi, Builtin.lenOf, Builtin.firstCells, hnc, storeCells]
theorem OwnV.lt {W : World} {B g : Nat} {e : TypeId} {v : Value} {xs : List Value} (h : OwnV W B e v xs) (hg : v.ownBlock = some g) : B ≤ g ∧ g < W.heap.size := by
 rcases h.2 with ⟨rfl, _⟩ | ⟨g', cap, cur, rfl, hb, hh, _⟩
 ·simp [Value.ownBlock] at hg
 ·obtain rfl : g' = g := by simpa [Value.ownBlock] using hg
  exact ⟨hb, (Array.getElem?_eq_some_iff.1 hh).1⟩
namespace Dg
structure It where
 kind : Int
 id : ByteArray
 parent : ByteArray
 number : ByteArray
 north : ByteArray
 south : ByteArray
 gone : Bool
def nil8 : ByteArray := ⟨#[]⟩
def letterB (c : UInt8) : Bool := (97 ≤ c && c ≤ 122) || (65 ≤ c && c ≤ 90)
def digitB (c : UInt8) : Bool := (48 ≤ c && c ≤ 57) || c == 95
def nameL : List UInt8 → Bool
 | [] => false
 | c :: r => letterB c && r.all fun d => letterB d || digitB d
def isNameB (s : ByteArray) : Bool := nameL (L s) && decide (s.size ≤ 24)
def numC (c : UInt8) : Bool := (48 ≤ c && c ≤ 57) || (97 ≤ c && c ≤ 122)
def isNumB (s : ByteArray) : Bool := decide (s.size ≤ 8) && (L s).all numC
def properI (x : It) : Bool :=
 if x.kind = 1 then isNumB x.number && (isNameB x.id && (decide (x.north = nil8) && (decide (x.south = nil8) && !x.gone)))
 else if x.kind = 2 then isNumB x.number && (isNameB x.id && (decide (x.north.size ≤ 400) && decide (x.south.size ≤ 400)))
 else false
def inB (l : List ByteArray) (x : ByteArray) : Bool := l.any fun d => decide (d = x)
theorem inB_iff (l : List ByteArray) (x : ByteArray) : inB l x = true ↔ x ∈ l := by
 unfold inB
 rw [List.any_eq_true]
 constructor
 ·rintro ⟨d, hd, h⟩
  rw [of_decide_eq_true h] at hd
  exact hd
 ·intro h
  exact ⟨x, h, decide_eq_true rfl⟩
theorem inB_no (l : List ByteArray) (x : ByteArray) : inB l x = false ↔ x ∉ l := by
 rw [← inB_iff]; simp
def kOf (op : List ByteArray) (p : ByteArray) : Option Nat := if p = nil8 then some 0 else if inB op p = true then some (op.findIdx (fun d => decide (d = p)) + 1) else none
structure Wk where
 seen : List ByteArray
 op : List ByteArray
def stepI (s : Wk) (x : It) : Option (List ByteArray × Wk) :=
 if properI x = true ∧ inB s.seen x.id = false then
  match kOf s.op x.parent with
  | none => none
  | some k => some (s.op.take k, ⟨x.id :: s.seen, if x.kind = 1 then s.op.take k ++ [x.id] else s.op.take k⟩)
 else none
def walkTo (l : List It) : Nat → Option (List (List ByteArray) × Wk)
 | 0 => some ([], ⟨[], []⟩)
 | k + 1 => match walkTo l k with
  | none => none
  | some (vs, s) => match l[k]? with
   | none => some (vs, s)
   | some x => match stepI s x with
    | none => none
    | some (o, s') => some (vs ++ [o], s')
def validC (l : List It) : Bool := (walkTo l l.length).isSome && decide (l.length ≤ 2000)
theorem walkTo_succ (l : List It) (k : Nat) (hk : k < l.length) : walkTo l (k + 1) = match walkTo l k with
  | none => none
  | some (vs, s) => match stepI s l[k] with
   | none => none
   | some (o, s') => some (vs ++ [o], s') := by
 rw [walkTo]
 cases walkTo l k with
 | none => rfl
 | some p => rw [List.getElem?_eq_getElem hk]
theorem stepI_some {s : Wk} {x : It} {o : List ByteArray} {s' : Wk} (h : stepI s x = some (o, s')) : properI x = true ∧ x.id ∉ s.seen ∧ ∃ k, kOf s.op x.parent = some k ∧ o = s.op.take k ∧ s'.seen = x.id :: s.seen ∧ s'.op = if x.kind = 1 then o ++ [x.id] else o := by
 unfold stepI at h
 split at h
 ·rename_i hp
  split at h
  ·cases h
  ·rename_i k hk
   injection h with h
   injection h with h1 h2
   subst h1 h2
   exact ⟨hp.1, (inB_no _ _).1 hp.2, k, hk, rfl, rfl, rfl⟩
 ·cases h
theorem walk_step {l : List It} {k : Nat} (hk : k < l.length) {vs : List (List ByteArray)} {s' : Wk} (h : walkTo l (k + 1) = some (vs, s')) : ∃ vs0 s o, walkTo l k = some (vs0, s) ∧ stepI s l[k] = some (o, s') ∧ vs = vs0 ++ [o] := by
 rw [walkTo_succ l k hk] at h
 cases hw : walkTo l k with
 | none => rw [hw] at h; cases h
 | some p =>
  obtain ⟨vs0, s⟩ := p
  rw [hw] at h
  simp only at h
  cases hs : stepI s l[k] with
  | none => rw [hs] at h; cases h
  | some q =>
   obtain ⟨o, s2⟩ := q
   rw [hs] at h
   simp only [Option.some.injEq, Prod.mk.injEq] at h
   obtain ⟨rfl, rfl⟩ := h
   exact ⟨vs0, s, o, rfl, hs, rfl⟩
theorem walk_len {l : List It} : ∀ {k : Nat} (_ : k ≤ l.length) {vs : List (List ByteArray)} {s : Wk}, walkTo l k = some (vs, s) → vs.length = k
 | 0, _, vs, s, h => by cases h; rfl
 | k + 1, hk, vs, s, h => by
  obtain ⟨vs0, s0, o, h1, _, rfl⟩ := walk_step (by omega) h
  rw [List.length_append, walk_len (by omega) h1]
  rfl
theorem walk_le {l : List It} : ∀ {n : Nat} (_ : n ≤ l.length) {vs : List (List ByteArray)} {s : Wk}, walkTo l n = some (vs, s) → ∀ k ≤ n, ∃ s0, walkTo l k = some (vs.take k, s0)
 | 0, _, vs, s, h, k, hk => by
  obtain rfl : k = 0 := by omega
  cases h
  exact ⟨_, rfl⟩
 | n + 1, hn, vs, s, h, k, hk => by
  obtain ⟨vs0, s0, o, h1, _, rfl⟩ := walk_step (by omega) h
  have hl := walk_len (by omega) h1
  by_cases e : k = n + 1
  ·subst e
   exact ⟨s, by rw [List.take_of_length_le (by rw [List.length_append, hl]; simp)]; exact h⟩
  ·obtain ⟨s1, h2⟩ := walk_le (by omega) h1 k (by omega)
   exact ⟨s1, by rw [List.take_append_of_le_length (by omega)]; exact h2⟩
theorem walk_seen {l : List It} : ∀ {k : Nat} (_ : k ≤ l.length) {vs : List (List ByteArray)} {s : Wk}, walkTo l k = some (vs, s) → s.seen = ((l.take k).map It.id).reverse ∧ s.seen.Nodup ∧ (∀ x ∈ s.op, x ∈ s.seen) ∧ (∀ o ∈ vs, ∀ x ∈ o, x ∈ s.seen)
 | 0, _, vs, s, h => by cases h; exact ⟨rfl, List.nodup_nil, by simp, by simp⟩
 | k + 1, hk, vs, s, h => by
  have hk' : k < l.length := by omega
  obtain ⟨vs0, s0, o, h1, h2, rfl⟩ := walk_step hk' h
  obtain ⟨a1, a2, a3, a4⟩ := walk_seen (by omega) h1
  obtain ⟨_, b2, k', _, b4, b5, b6⟩ := stepI_some h2
  have ho : ∀ x ∈ o, x ∈ s0.seen := fun x hx => a3 x (by rw [b4] at hx; exact List.mem_of_mem_take hx)
  refine ⟨?_, ?_, fun x hx => ?_, fun o' ho' x hx => ?_⟩
  ·rw [b5, a1, List.take_succ_eq_append_getElem hk', List.map_append, List.reverse_append]; rfl
  ·rw [b5]; exact List.nodup_cons.2 ⟨b2, a2⟩
  ·rw [b6] at hx
   rw [b5]
   split at hx
   ·rcases List.mem_append.1 hx with h | h
    ·exact List.mem_cons_of_mem _ (ho x h)
    ·rw [List.mem_singleton.1 h]; exact List.mem_cons_self ..
   ·exact List.mem_cons_of_mem _ (ho x hx)
  ·rw [b5]
   rcases List.mem_append.1 ho' with h | h
   ·exact List.mem_cons_of_mem _ (a4 o' h x hx)
   ·rw [List.mem_singleton.1 h] at hx; exact List.mem_cons_of_mem _ (ho x hx)
end Dg
inductive Rv where
 | Rv0 (p : Dg.It)
instance (p : Dg.It) : CoeDep Rv (.Rv0 p) (Array Value) := ⟨#[.int .i64 p.kind, .string p.id, .string p.parent, .string p.number, .string p.north, .string p.south, .bool p.gone]⟩
instance (p : Dg.It) : CoeDep Rv (.Rv0 p) (List Value) := ⟨[.int .i64 p.kind, .string p.id, .string p.parent, .string p.number, .string p.north, .string p.south, .bool p.gone]⟩
open Rv
structure Off (S : List Nat) (w w' : World) : Prop where
 os : w'.os = w.os
 tape : w'.tape = w.tape
 output : w'.output = w.output
 size : w.heap.size ≤ w'.heap.size
 block : ∀ k, k < w.heap.size → k ∉ S → w'.heap[k]? = w.heap[k]?
theorem Off.refl (S : List Nat) (w : World) : Off S w w := ⟨rfl, rfl, rfl, Nat.le_refl _, fun _ _ _ => rfl⟩
theorem Off.trans {S T : List Nat} {a b c : World} (h : Off S a b) (k : Off T b c) (hT : ∀ g ∈ T, g ∈ S ∨ a.heap.size ≤ g) : Off S a c :=
 ⟨k.os.trans h.os, k.tape.trans h.tape, k.output.trans h.output, Nat.le_trans h.size k.size, fun i hi hn => (k.block i (Nat.lt_of_lt_of_le hi h.size) fun hm => by
  rcases hT i hm with h1 | h1
  ·exact hn h1
  ·omega).trans (h.block i hi hn)⟩
theorem Off.of_below {S : List Nat} {w w' : World} (h : Below w.heap.size w w') : Off S w w' := ⟨h.os, h.tape, h.output, h.size, fun k hk _ => h.block k hk⟩
theorem Off.below {S : List Nat} {w w' : World} {B : Nat} (h : Off S w w') (hB : B ≤ w.heap.size) (hS : ∀ g ∈ S, B ≤ g) : Below B w w' :=
 ⟨h.os, h.tape, h.output, h.size, fun k hk => h.block k (by omega) fun hm => by have := hS k hm; omega⟩
theorem Off.nil {w w' : World} (h : Off [] w w') : Below w.heap.size w w' := h.below (Nat.le_refl _) (fun _ h => by cases h)
theorem Off.of_grown {S : List Nat} {w w' : World} {row : Option Nat} (h : w.grownBy w' row) (hr : ∀ k, row = some k → k ∈ S) : Off S w w' :=
 ⟨h.os, h.tape, h.output, h.size, fun k hk hn => h.block k hk fun e => hn (hr k e.symm)⟩
theorem Off.setCell {S : List Nat} {a w : World} (h : Off S a w) {p : Addr} (hp : p.block ∈ S) (u : Value) : Off S a (w.setCell p u) :=
 ⟨h.os, h.tape, h.output, Nat.le_trans h.size (by simp [World.setCell]), fun k hk hn => (Below.heap_setCell _ _ _ _ (fun e => hn (by rw [e]; exact hp))).trans (h.block k hk hn)⟩
theorem Off.next {S : List Nat} {a w w' : World} (h : Off S a w) (hb : Below w.heap.size w w') : Off S a w' := h.trans (Off.of_below (S := S) hb) (fun _ hg => Or.inl hg)
theorem Off.row {S : List Nat} {w w' : World} {g : Nat} {o : Obj} (h : Off S w w') (hg : w.heap[g]? = some o) (hn : g ∉ S) : w'.heap[g]? = some o := (h.block g (lt_of_block hg) hn).trans hg
theorem ownsMap_off {H : Type} {S : List Nat} {w w' : World} {P : Program} {k : TypeId} {R : Value → Option (DataW H × List MemPlace)} {b n : Nat} {D : DataW H} (h : w.ownsMap P k R b n D) (ho : Off S w w') (hn : b ∉ S) : w'.ownsMap P k R b n D := by
 obtain ⟨es, clock, h1, h2⟩ := h
 exact ⟨es, clock, ho.row h1 hn, h2⟩
theorem iCells {w : World} {g : Nat} {a0 a1 a2 a3 a4 a5 a6 : Value} {T : TypeId} (h : w.heap[g]? = some (.cells #[a0, a1, a2, a3, a4, a5, a6] T (0, 0))) :
  w.cell? ⟨g, 0, none⟩ = some a0 ∧ w.cell? ⟨g, 1, none⟩ = some a1 ∧ w.cell? ⟨g, 2, none⟩ = some a2 ∧ w.cell? ⟨g, 3, none⟩ = some a3 ∧ w.cell? ⟨g, 4, none⟩ = some a4 ∧ w.cell? ⟨g, 5, none⟩ = some a5 ∧ w.cell? ⟨g, 6, none⟩ = some a6 := by
 refine ⟨?_, ?_, ?_, ?_, ?_, ?_, ?_⟩ <;> (rw [cell_of_row _ _ _ _ _ (0, 0) h]; rfl)
theorem iNext {w w' : World} {g : Nat} {o : Obj} (h : w.heap[g]? = some o) (hb : Below w.heap.size w w') : w'.heap[g]? = some o := (hb.block g (lt_of_block h)).trans h
def itV (x : Dg.It) : Array Value := (Rv0 x : Array Value)
structure ItW (x : Dg.It) : Prop where
 k0 : -9223372036854775808 ≤ x.kind
 k1 : x.kind ≤ 9223372036854775807
 iz : x.id.size ≤ 9223372036854775807
 pz : x.parent.size ≤ 9223372036854775807
 nz : x.number.size ≤ 9223372036854775807
 oz : x.north.size ≤ 9223372036854775807
 sz : x.south.size ≤ 9223372036854775807
structure Its (w : World) (B : Nat) (A : Option Addr) (l : List Dg.It) : Prop where
 at_ : 0 < l.length → ∃ b off, A = some ⟨b, off, none⟩ ∧ b < B ∧ ∀ (j : Nat) (x : Dg.It), l[j]? = some x → ∀ (i : Nat) (u : Value), (itV x)[i]? = some u → w.cell? ⟨b, off + j * 7 + i, none⟩ = some u
theorem Its.nil (w : World) (B : Nat) (A : Option Addr) : Its w B A [] := ⟨fun h => by simp at h⟩
theorem Its.below {w w' : World} {B : Nat} {A : Option Addr} {l : List Dg.It} (h : Its w B A l) (hb : Below B w w') : Its w' B A l :=
 ⟨fun h0 => by
  obtain ⟨b, off, e, hlt, hc⟩ := h.at_ h0
  exact ⟨b, off, e, hlt, fun j x hj i u hu => (hb.cell (p := ⟨b, off + j * 7 + i, none⟩) hlt).trans (hc j x hj i u hu)⟩⟩
theorem Its.more {w : World} {B B' : Nat} {A : Option Addr} {l : List Dg.It} (h : Its w B A l) (hB : B ≤ B') : Its w B' A l :=
 ⟨fun h0 => by
  obtain ⟨b, off, e, hlt, hc⟩ := h.at_ h0
  exact ⟨b, off, e, by omega, hc⟩⟩
theorem Its.keep {w w' : World} {A : Option Addr} {l : List Dg.It} (h : Its w w.heap.size A l) (hb : Below w.heap.size w w') : Its w' w'.heap.size A l := (h.below hb).more hb.size
theorem Its.get {w : World} {B : Nat} {A : Option Addr} {l : List Dg.It} (h : Its w B A l) {k : Nat} (hk : k < l.length) : ∃ b off, A = some ⟨b, off, none⟩ ∧ b < B ∧ ∀ (i : Nat) (u : Value), (itV l[k])[i]? = some u → w.cell? ⟨b, off + k * 7 + i, none⟩ = some u := by
 obtain ⟨b, off, e, hb, hc⟩ := h.at_ (by omega)
 exact ⟨b, off, e, hb, hc k l[k] (List.getElem?_eq_getElem hk)⟩
theorem nameL_iff (l : List UInt8) : Dg.nameL l = true ↔ l ≠ [] ∧ ∀ (j : Nat) (c : UInt8), l[j]? = some c → Dg.letterB c = true ∨ (0 < j ∧ Dg.digitB c = true) := by
 cases l with
 | nil => simp [Dg.nameL]
 | cons d r =>
  rw [Dg.nameL, Bool.and_eq_true, List.all_eq_true]
  constructor
  ·rintro ⟨h1, h2⟩
   refine ⟨by simp, fun j c hj => ?_⟩
   cases j with
   | zero => simp at hj; subst hj; exact Or.inl h1
   | succ j =>
    have hm := List.mem_of_getElem? (show r[j]? = some c by simpa using hj)
    have h3 := h2 c hm
    rw [Bool.or_eq_true] at h3
    exact h3.imp id (fun h => ⟨by omega, h⟩)
  ·rintro ⟨_, h⟩
   refine ⟨by
    rcases h 0 d rfl with h1 | ⟨h1, _⟩
    ·exact h1
    ·omega, fun c hc => ?_⟩
   obtain ⟨j, hj⟩ := List.getElem?_of_mem hc
   have h3 := h (j + 1) c (by simpa using hj)
   rw [Bool.or_eq_true]
   exact h3.imp id (fun h => h.2)
def nmTo (l : List UInt8) (k : Nat) : Prop := ∀ (j : Nat) (c : UInt8), j < k → l[j]? = some c → Dg.letterB c = true ∨ (0 < j ∧ Dg.digitB c = true)
theorem nmTo_zero (l : List UInt8) : nmTo l 0 := fun _ _ h => by omega
theorem nmTo_succ {l : List UInt8} {k : Nat} {c : UInt8} (h : nmTo l k) (hc : l[k]? = some c) (h2 : Dg.letterB c = true ∨ (0 < k ∧ Dg.digitB c = true)) : nmTo l (k + 1) := fun j d hj hd => by
 by_cases e : j = k
 ·subst e; rw [hc] at hd; cases hd; exact h2
 ·exact h j d (by omega) hd
theorem nm_bad {s : ByteArray} {k : Nat} {c : UInt8} (hc : (Dg.L s)[k]? = some c) (h1 : Dg.letterB c = false) (h2 : k = 0 ∨ Dg.digitB c = false) : Dg.isNameB s = false := by
 unfold Dg.isNameB
 rw [Bool.and_eq_false_iff]
 left
 rw [Bool.eq_false_iff]
 intro h
 rcases ((nameL_iff _).1 h).2 k c hc with h3 | ⟨h3, h4⟩
 ·rw [h1] at h3; cases h3
 ·rcases h2 with h2 | h2
  ·omega
  ·rw [h2] at h4; cases h4
theorem nm_good {s : ByteArray} (h : nmTo (Dg.L s) s.size) : Dg.isNameB s = (decide (0 < s.size) && decide (s.size ≤ 24)) := by
 unfold Dg.isNameB
 congr 1
 by_cases h0 : 0 < s.size
 ·rw [decide_eq_true h0]
  refine (nameL_iff _).2 ⟨fun e => ?_, fun j c hj => h j c ?_ hj⟩
  ·have := Dg.len_L s; rw [e] at this; simp at this; omega
  ·have := (List.getElem?_eq_some_iff.1 hj).1
   rw [Dg.len_L] at this; exact this
 ·rw [decide_eq_false h0]
  have : Dg.L s = [] := List.length_eq_zero_iff.1 (by rw [Dg.len_L]; omega)
  rw [this]; rfl
theorem byte_cls (c : UInt8) : (97 ≤ c.toNat ∧ c.toNat ≤ 122 ∧ Dg.letterB c = true) ∨ (65 ≤ c.toNat ∧ c.toNat ≤ 90 ∧ Dg.letterB c = true) ∨ (c.toNat = 95 ∧ Dg.letterB c = false ∧ Dg.digitB c = true) ∨
  (48 ≤ c.toNat ∧ c.toNat ≤ 57 ∧ Dg.letterB c = false ∧ Dg.digitB c = true) ∨ (c.toNat < 48 ∧ Dg.letterB c = false ∧ Dg.digitB c = false) ∨ (57 < c.toNat ∧ c.toNat < 65 ∧ Dg.letterB c = false ∧ Dg.digitB c = false) ∨
  (90 < c.toNat ∧ c.toNat < 97 ∧ c.toNat ≠ 95 ∧ Dg.letterB c = false ∧ Dg.digitB c = false) ∨ (122 < c.toNat ∧ Dg.letterB c = false ∧ Dg.digitB c = false) := by
 have e1 : Dg.letterB c = decide ((97 ≤ c.toNat ∧ c.toNat ≤ 122) ∨ (65 ≤ c.toNat ∧ c.toNat ≤ 90)) := by
  unfold Dg.letterB
  simp [UInt8.le_iff_toNat_le]
 have e2 : Dg.digitB c = decide ((48 ≤ c.toNat ∧ c.toNat ≤ 57) ∨ c.toNat = 95) := by
  unfold Dg.digitB
  have : (c == 95) = decide (c.toNat = 95) := by
   rw [Bool.eq_iff_iff, beq_iff_eq, decide_eq_true_eq]
   exact ⟨fun h => by rw [h]; rfl, fun h => UInt8.toNat_inj.1 h⟩
  rw [this]
  simp [UInt8.le_iff_toNat_le]
 rw [e1, e2]
 simp only [decide_eq_true_eq, decide_eq_false_iff_not]
 omega
theorem byte_at {s : ByteArray} {k : Nat} (h : k < s.size) : (Dg.L s)[k]? = some (s[k]'h) := by
 show s.data.toList[k]? = _
 rw [Array.getElem?_toList]
 exact Array.getElem?_eq_getElem h
theorem isName_any (s : ByteArray) (R : Bool) (hR : Dg.isNameB s = R) (hs : s.size ≤ 9223372036854775807) (w : World) :
  Calls Tryz.prog 98 #[.string s] w fun e w' => e = .returned (.bool R) ∧ w' = w := by
 have HR := hide hR; clear hR
 go_enter func98, ntmps98
 go_wp2
 go_loop [9] (fun i => ∃ k : Nat, k ≤ s.size ∧ i = .int .i64 k ∧ Hid (nmTo (Dg.L s) k)) (fun i => s.size - (intOf i).toNat)
 case atStart => exact ⟨0, by omega, rfl, nmTo_zero _⟩
 case round =>
  obtain ⟨k, hk, rfl, hm⟩ := hrel
  by_cases hlt : k < s.size
  ·have hc := byte_at hlt
   obtain ⟨c, hcc⟩ : ∃ c, s[k]'hlt = c := ⟨_, rfl⟩
   rw [hcc] at hc
   have HC := hide hc; clear hc
   have k0 : ((k : Int) == 0) = decide (k = 0) := by rw [Bool.eq_iff_iff, beq_iff_eq, decide_eq_true_eq]; omega
   rcases byte_cls c with ⟨b0, b1, hl⟩ | ⟨b0, b1, hl⟩ | ⟨b0, hl, hd⟩ | ⟨b0, b1, hl, hd⟩ | ⟨b0, hl, hd⟩ | ⟨b0, b1, hl, hd⟩ | ⟨b0, b1, b2, hl, hd⟩ | ⟨b0, hl, hd⟩
   ·have q0 : 97 ≤ (c.toNat : Int) := by omega
    have q1 : (c.toNat : Int) ≤ 122 := by omega
    have q2 : 65 ≤ (c.toNat : Int) := by omega
    have q3 : ¬ (c.toNat : Int) ≤ 90 := by omega
    have q4 : 48 ≤ (c.toNat : Int) := by omega
    have q5 : ¬ (c.toNat : Int) ≤ 57 := by omega
    have q6 : ((c.toNat : Int) == 95) = false := by rw [beq_eq_false_iff_ne, ne_eq]; omega
    have HL := hide (show Dg.letterB c = true ∨ (0 < k ∧ Dg.digitB c = true) from Or.inl hl)
    clear hl b0 b1
    go_wp2
    go_round
    case rel => exact ⟨k + 1, by omega, by go_num, nmTo_succ hm.out HC.out HL.out⟩
    case measure => simp [intOf]; omega
   ·have q0 : ¬ 97 ≤ (c.toNat : Int) := by omega
    have q1 : (c.toNat : Int) ≤ 122 := by omega
    have q2 : 65 ≤ (c.toNat : Int) := by omega
    have q3 : (c.toNat : Int) ≤ 90 := by omega
    have q4 : 48 ≤ (c.toNat : Int) := by omega
    have q5 : ¬ (c.toNat : Int) ≤ 57 := by omega
    have q6 : ((c.toNat : Int) == 95) = false := by rw [beq_eq_false_iff_ne, ne_eq]; omega
    have HL := hide (show Dg.letterB c = true ∨ (0 < k ∧ Dg.digitB c = true) from Or.inl hl)
    clear hl b0 b1
    go_wp2
    go_round
    case rel => exact ⟨k + 1, by omega, by go_num, nmTo_succ hm.out HC.out HL.out⟩
    case measure => simp [intOf]; omega
   ·have q0 : ¬ 97 ≤ (c.toNat : Int) := by omega
    have q1 : (c.toNat : Int) ≤ 122 := by omega
    have q2 : 65 ≤ (c.toNat : Int) := by omega
    have q3 : ¬ (c.toNat : Int) ≤ 90 := by omega
    have q4 : 48 ≤ (c.toNat : Int) := by omega
    have q5 : ¬ (c.toNat : Int) ≤ 57 := by omega
    have q6 : ((c.toNat : Int) == 95) = true := by rw [beq_iff_eq]; omega
    by_cases kz : k = 0
    ·have HL := hide (show Dg.letterB c = false ∧ (k = 0 ∨ Dg.digitB c = false) from ⟨hl, Or.inl kz⟩)
     clear hl hd b0
     have kb : decide (k = 0) = true := decide_eq_true kz
     clear kz
     go_wp2
     go_ret
     exact ⟨ret_bool (HR.out.symm.trans (nm_bad HC.out HL.out.1 HL.out.2)).symm, rfl⟩
    ·have HL := hide (show Dg.letterB c = true ∨ (0 < k ∧ Dg.digitB c = true) from Or.inr ⟨by omega, hd⟩)
     clear hl hd b0
     have kb : decide (k = 0) = false := decide_eq_false kz
     clear kz
     go_wp2
     go_round
     case rel => exact ⟨k + 1, by omega, by go_num, nmTo_succ hm.out HC.out HL.out⟩
     case measure => simp [intOf]; omega
   ·have q0 : ¬ 97 ≤ (c.toNat : Int) := by omega
    have q1 : (c.toNat : Int) ≤ 122 := by omega
    have q2 : ¬ 65 ≤ (c.toNat : Int) := by omega
    have q3 : (c.toNat : Int) ≤ 90 := by omega
    have q4 : 48 ≤ (c.toNat : Int) := by omega
    have q5 : (c.toNat : Int) ≤ 57 := by omega
    have q6 : ((c.toNat : Int) == 95) = false := by rw [beq_eq_false_iff_ne, ne_eq]; omega
    by_cases kz : k = 0
    ·have HL := hide (show Dg.letterB c = false ∧ (k = 0 ∨ Dg.digitB c = false) from ⟨hl, Or.inl kz⟩)
     clear hl hd b0 b1
     have kb : decide (k = 0) = true := decide_eq_true kz
     clear kz
     go_wp2
     go_ret
     exact ⟨ret_bool (HR.out.symm.trans (nm_bad HC.out HL.out.1 HL.out.2)).symm, rfl⟩
    ·have HL := hide (show Dg.letterB c = true ∨ (0 < k ∧ Dg.digitB c = true) from Or.inr ⟨by omega, hd⟩)
     clear hl hd b0 b1
     have kb : decide (k = 0) = false := decide_eq_false kz
     clear kz
     go_wp2
     go_round
     case rel => exact ⟨k + 1, by omega, by go_num, nmTo_succ hm.out HC.out HL.out⟩
     case measure => simp [intOf]; omega
   ·have q0 : ¬ 97 ≤ (c.toNat : Int) := by omega
    have q1 : (c.toNat : Int) ≤ 122 := by omega
    have q2 : ¬ 65 ≤ (c.toNat : Int) := by omega
    have q3 : (c.toNat : Int) ≤ 90 := by omega
    have q4 : ¬ 48 ≤ (c.toNat : Int) := by omega
    have q5 : (c.toNat : Int) ≤ 57 := by omega
    have q6 : ((c.toNat : Int) == 95) = false := by rw [beq_eq_false_iff_ne, ne_eq]; omega
    have HL := hide (show Dg.letterB c = false ∧ (k = 0 ∨ Dg.digitB c = false) from ⟨hl, Or.inr hd⟩)
    clear hl hd b0
    by_cases kz : k = 0
    ·have kb : decide (k = 0) = true := decide_eq_true kz
     clear kz
     go_wp2
     go_ret
     exact ⟨ret_bool (HR.out.symm.trans (nm_bad HC.out HL.out.1 HL.out.2)).symm, rfl⟩
    ·have kb : decide (k = 0) = false := decide_eq_false kz
     clear kz
     go_wp2
     go_ret
     exact ⟨ret_bool (HR.out.symm.trans (nm_bad HC.out HL.out.1 HL.out.2)).symm, rfl⟩
   ·have q0 : ¬ 97 ≤ (c.toNat : Int) := by omega
    have q1 : (c.toNat : Int) ≤ 122 := by omega
    have q2 : ¬ 65 ≤ (c.toNat : Int) := by omega
    have q3 : (c.toNat : Int) ≤ 90 := by omega
    have q4 : 48 ≤ (c.toNat : Int) := by omega
    have q5 : ¬ (c.toNat : Int) ≤ 57 := by omega
    have q6 : ((c.toNat : Int) == 95) = false := by rw [beq_eq_false_iff_ne, ne_eq]; omega
    have HL := hide (show Dg.letterB c = false ∧ (k = 0 ∨ Dg.digitB c = false) from ⟨hl, Or.inr hd⟩)
    clear hl hd b0 b1
    by_cases kz : k = 0
    ·have kb : decide (k = 0) = true := decide_eq_true kz
     clear kz
     go_wp2
     go_ret
     exact ⟨ret_bool (HR.out.symm.trans (nm_bad HC.out HL.out.1 HL.out.2)).symm, rfl⟩
    ·have kb : decide (k = 0) = false := decide_eq_false kz
     clear kz
     go_wp2
     go_ret
     exact ⟨ret_bool (HR.out.symm.trans (nm_bad HC.out HL.out.1 HL.out.2)).symm, rfl⟩
   ·have q0 : ¬ 97 ≤ (c.toNat : Int) := by omega
    have q1 : (c.toNat : Int) ≤ 122 := by omega
    have q2 : 65 ≤ (c.toNat : Int) := by omega
    have q3 : ¬ (c.toNat : Int) ≤ 90 := by omega
    have q4 : 48 ≤ (c.toNat : Int) := by omega
    have q5 : ¬ (c.toNat : Int) ≤ 57 := by omega
    have q6 : ((c.toNat : Int) == 95) = false := by rw [beq_eq_false_iff_ne, ne_eq]; omega
    have HL := hide (show Dg.letterB c = false ∧ (k = 0 ∨ Dg.digitB c = false) from ⟨hl, Or.inr hd⟩)
    clear hl hd b0 b1 b2
    by_cases kz : k = 0
    ·have kb : decide (k = 0) = true := decide_eq_true kz
     clear kz
     go_wp2
     go_ret
     exact ⟨ret_bool (HR.out.symm.trans (nm_bad HC.out HL.out.1 HL.out.2)).symm, rfl⟩
    ·have kb : decide (k = 0) = false := decide_eq_false kz
     clear kz
     go_wp2
     go_ret
     exact ⟨ret_bool (HR.out.symm.trans (nm_bad HC.out HL.out.1 HL.out.2)).symm, rfl⟩
   ·have q0 : 97 ≤ (c.toNat : Int) := by omega
    have q1 : ¬ (c.toNat : Int) ≤ 122 := by omega
    have q2 : 65 ≤ (c.toNat : Int) := by omega
    have q3 : ¬ (c.toNat : Int) ≤ 90 := by omega
    have q4 : 48 ≤ (c.toNat : Int) := by omega
    have q5 : ¬ (c.toNat : Int) ≤ 57 := by omega
    have q6 : ((c.toNat : Int) == 95) = false := by rw [beq_eq_false_iff_ne, ne_eq]; omega
    have HL := hide (show Dg.letterB c = false ∧ (k = 0 ∨ Dg.digitB c = false) from ⟨hl, Or.inr hd⟩)
    clear hl hd b0
    by_cases kz : k = 0
    ·have kb : decide (k = 0) = true := decide_eq_true kz
     clear kz
     go_wp2
     go_ret
     exact ⟨ret_bool (HR.out.symm.trans (nm_bad HC.out HL.out.1 HL.out.2)).symm, rfl⟩
    ·have kb : decide (k = 0) = false := decide_eq_false kz
     clear kz
     go_wp2
     go_ret
     exact ⟨ret_bool (HR.out.symm.trans (nm_bad HC.out HL.out.1 HL.out.2)).symm, rfl⟩
  ·obtain rfl : k = s.size := by omega
   have hg := nm_good hm.out
   rw [HR.out] at hg
   have HG := hide hg
   clear hg hm HR
   by_cases h0 : s.toList = []
   ·have hz : s.size = 0 := by
     have := Dg.len_L s
     rw [show Dg.L s = s.toList from (Lib.toList_data s).symm, h0] at this
     exact this.symm
    have HG2 := hide (show false = R by rw [HG.out, hz]; rfl)
    have n0 : s.toList.isEmpty = true := by rw [h0]; rfl
    clear HG hz
    go_wp2
    go_ret
    exact ⟨ret_bool HG2.out, rfl⟩
   ·have hz : 0 < s.size := by
     rcases Nat.eq_zero_or_pos s.size with h1 | h1
     ·exact absurd (List.length_eq_zero_iff.1 (by rw [Lib.toList_data]; exact (Dg.len_L s).trans h1)) h0
     ·exact h1
    have HG2 := hide (show decide ((s.size : Int) ≤ 24) = R by rw [HG.out, decide_eq_true hz, Bool.true_and, Bool.eq_iff_iff, decide_eq_true_eq, decide_eq_true_eq]; omega)
    have n0 : s.toList.isEmpty = false := by rw [Bool.eq_false_iff]; exact fun h => h0 (List.isEmpty_iff.1 h)
    clear HG hz
    go_wp2
    go_ret
    exact ⟨ret_bool HG2.out, rfl⟩
def numP (r : Nat) : Bool := !((decide (48 ≤ r) && decide (r ≤ 57)) || (decide (97 ≤ r) && decide (r ≤ 122)))
theorem numC_P (c : UInt8) : Dg.numC c = !numP c.toNat := by
 unfold Dg.numC numP
 simp [UInt8.le_iff_toNat_le]
theorem get_at {s : ByteArray} {k : Nat} (h : k < s.size) : s.get! k = s[k]'h := by
 show s.data[k]! = s.data[k]
 exact getElem!_pos s.data k h
theorem decode_lo (s : ByteArray) (i : Nat) (h : (s.get! i).toNat < 128) : Utf8.decode s i = ((s.get! i).toNat, 1) := by
 unfold Utf8.decode
 simp only [Nat.add_zero]
 rw [if_pos h]
theorem decode_hi (s : ByteArray) (i : Nat) (h : 128 ≤ (s.get! i).toNat) : 128 ≤ (Utf8.decode s i).1 := by
 unfold Utf8.decode
 simp only [Nat.add_zero]
 rw [if_neg (by omega)]
 repeat' split
 all_goals (try simp only [Utf8.runeError, Bool.and_eq_true, decide_eq_true_eq, ge_iff_le] at *)
 all_goals omega
theorem numP_hi {r : Nat} (h : 128 ≤ r) : numP r = true := by
 unfold numP
 rw [show decide (r ≤ 57) = false from decide_eq_false (by omega), show decide (r ≤ 122) = false from decide_eq_false (by omega)]
 simp
theorem num_from (s : ByteArray) : ∀ (f pos : Nat), s.size - pos ≤ f → (0 ≤ Lib.idxFuncFrom numP true s f pos ↔ ∃ (j : Nat) (c : UInt8), pos ≤ j ∧ (Dg.L s)[j]? = some c ∧ Dg.numC c = false)
 | 0, pos, h => by
  rw [Lib.idxFuncFrom]
  constructor
  ·intro h1; omega
  ·rintro ⟨j, c, h1, h2, _⟩
   have := (List.getElem?_eq_some_iff.1 h2).1
   rw [Dg.len_L] at this
   omega
 | f + 1, pos, h => by
  rw [Lib.idxFuncFrom]
  by_cases hp : pos < s.size
  ·rw [if_pos hp]
   have hc := byte_at hp
   have hg := get_at hp
   generalize s[pos] = c at *
   by_cases hlo : c.toNat < 128
   ·rw [decode_lo s pos (by rw [hg]; exact hlo), hg]
    by_cases hn : numP c.toNat = true
    ·rw [if_pos hn]
     exact ⟨fun _ => ⟨pos, c, Nat.le_refl _, hc, by rw [numC_P, hn]; rfl⟩, fun _ => by omega⟩
    ·rw [if_neg hn, num_from s f (pos + 1) (by omega)]
     constructor
     ·rintro ⟨j, d, h1, h2⟩
      exact ⟨j, d, by omega, h2⟩
     ·rintro ⟨j, d, h1, h2, h3⟩
      refine ⟨j, d, ?_, h2, h3⟩
      rcases Nat.eq_or_lt_of_le h1 with e | e
      ·subst e
       rw [hc] at h2
       cases h2
       rw [numC_P, Bool.eq_false_iff.2 hn] at h3
       cases h3
      ·omega
   ·rw [if_pos (numP_hi (decode_hi s pos (by rw [hg]; omega)))]
    exact ⟨fun _ => ⟨pos, c, Nat.le_refl _, hc, by rw [numC_P, numP_hi (by omega)]; rfl⟩, fun _ => by omega⟩
  ·rw [if_neg hp]
   constructor
   ·intro h1; omega
   ·rintro ⟨j, c, h1, h2, _⟩
    have := (List.getElem?_eq_some_iff.1 h2).1
    rw [Dg.len_L] at this
    omega
theorem num_idx (s : ByteArray) : decide (0 ≤ Lib.idxFunc numP true s) = !((Dg.L s).all Dg.numC) := by
 have h := num_from s s.size 0 (by omega)
 rw [Bool.eq_iff_iff, decide_eq_true_eq, Lib.idxFunc, h, Bool.not_eq_true', List.all_eq_false]
 constructor
 ·rintro ⟨j, c, _, h1, h2⟩
  exact ⟨c, List.mem_of_getElem? h1, by rw [h2]; simp⟩
 ·rintro ⟨c, h1, h2⟩
  obtain ⟨j, hj⟩ := List.getElem?_of_mem h1
  exact ⟨j, c, Nat.zero_le _, hj, by simpa using h2⟩
theorem num_cls (x : Nat) : (x < 48 ∧ numP x = true) ∨ (48 ≤ x ∧ x ≤ 57 ∧ numP x = false) ∨ (57 < x ∧ x < 97 ∧ numP x = true) ∨ (97 ≤ x ∧ x ≤ 122 ∧ numP x = false) ∨ (122 < x ∧ numP x = true) := by
 have : numP x = !decide ((48 ≤ x ∧ x ≤ 57) ∨ (97 ≤ x ∧ x ≤ 122)) := by
  unfold numP
  simp
 rw [this]
 simp only [Bool.not_eq_true', Bool.not_eq_false', decide_eq_true_eq, decide_eq_false_iff_not]
 omega
theorem num_pred (w : World) : PredAtRunes Tryz.prog 97 #[] numP w := fun W x hx _ => by
 unfold FnGives
 rcases num_cls x with ⟨b0, hr⟩ | ⟨b0, b1, hr⟩ | ⟨b0, b1, hr⟩ | ⟨b0, b1, hr⟩ | ⟨b0, hr⟩
 ·rw [hr]
  have q0 : ¬ 48 ≤ (x : Int) := by omega
  have q1 : (x : Int) ≤ 57 := by omega
  have q2 : ¬ 97 ≤ (x : Int) := by omega
  have q3 : (x : Int) ≤ 122 := by omega
  clear b0 hr
  go_enter func97, ntmps97
  go_wp2
  go_ret
  exact ⟨rfl, 0, rfl⟩
 ·rw [hr]
  have q0 : 48 ≤ (x : Int) := by omega
  have q1 : (x : Int) ≤ 57 := by omega
  have q2 : ¬ 97 ≤ (x : Int) := by omega
  have q3 : (x : Int) ≤ 122 := by omega
  clear b0 hr
  go_enter func97, ntmps97
  go_wp2
  go_ret
  exact ⟨rfl, 0, rfl⟩
 ·rw [hr]
  have q0 : 48 ≤ (x : Int) := by omega
  have q1 : ¬ (x : Int) ≤ 57 := by omega
  have q2 : ¬ 97 ≤ (x : Int) := by omega
  have q3 : (x : Int) ≤ 122 := by omega
  clear b0 hr
  go_enter func97, ntmps97
  go_wp2
  go_ret
  exact ⟨rfl, 0, rfl⟩
 ·rw [hr]
  have q0 : 48 ≤ (x : Int) := by omega
  have q1 : ¬ (x : Int) ≤ 57 := by omega
  have q2 : 97 ≤ (x : Int) := by omega
  have q3 : (x : Int) ≤ 122 := by omega
  clear b0 hr
  go_enter func97, ntmps97
  go_wp2
  go_ret
  exact ⟨rfl, 0, rfl⟩
 ·rw [hr]
  have q0 : 48 ≤ (x : Int) := by omega
  have q1 : ¬ (x : Int) ≤ 57 := by omega
  have q2 : 97 ≤ (x : Int) := by omega
  have q3 : ¬ (x : Int) ≤ 122 := by omega
  clear b0 hr
  go_enter func97, ntmps97
  go_wp2
  go_ret
  exact ⟨rfl, 0, rfl⟩
theorem emp_iff (s : ByteArray) : decide (s = Dg.nil8) = s.toList.isEmpty := by
 rw [Bool.eq_iff_iff, decide_eq_true_eq, List.isEmpty_iff, Lib.toList_data]
 constructor
 ·intro h; rw [h]; rfl
 ·intro h
  obtain ⟨d⟩ := s
  obtain ⟨l⟩ := d
  show (⟨⟨l⟩⟩ : ByteArray) = ⟨#[]⟩
  simp at h
  rw [h]
theorem item_any (x : Dg.It) (R : Bool) (hR : Dg.properI x = R) (hx : ItW x) (w : World) :
  Calls Tryz.prog 71 #[.agg (Rv0 x)] w fun e w' => e = .returned (.bool R) ∧ Below w.heap.size w w' := by
 have hb0 := nwB w (.cells (Rv0 x) 51)
 have hx0 := heap_alloc_new w (.cells (Rv0 x) 51)
 obtain ⟨nb, hnb⟩ : ∃ b, Dg.isNumB x.number = b := ⟨_, rfl⟩
 obtain ⟨nm, hnm⟩ : ∃ b, Dg.isNameB x.id = b := ⟨_, rfl⟩
 have hiz := hx.iz
 have hb3 : x.north.toList.isEmpty = decide (x.north = Dg.nil8) := (emp_iff _).symm
 have hb4 : x.south.toList.isEmpty = decide (x.south = Dg.nil8) := (emp_iff _).symm
 unfold Dg.properI at hR
 rw [← hb3, ← hb4, hnb, hnm] at hR
 have hnum : Dg.isNumB x.number = (decide ((x.number.size : Int) ≤ 8) && !decide (0 ≤ Lib.idxFunc numP true x.number)) := by
  rw [num_idx, Bool.not_not]
  unfold Dg.isNumB
  congr 1
  rw [Bool.eq_iff_iff, decide_eq_true_eq, decide_eq_true_eq]
  omega
 rw [hnb] at hnum
 clear hb3 hb4 hnb hx
 obtain ⟨kd, id, par, num, nor, sou, gon⟩ := x
 dsimp only at *
 have HR := hide hR; have HU := hide hnum; have HN := hide hnm
 clear hR hnum hnm
 go_enter func71, ntmps71
 go_upto_region 1 with (fail)
 obtain ⟨c0, c1, c2, c3, c4, c5, c6⟩ := iCells hx0
 generalize w.alloc (.cells #[.int .i64 kd, .string id, .string par, .string num, .string nor, .string sou, .bool gon] 51) = w0 at *
 generalize hg : w.heap.size = g at *
 go_cut [3] from 4 to 13 (fun v wx => v = .bool nb ∧ Below w0.heap.size w0 wx)
 case first =>
  by_cases hl : (num.size : Int) ≤ 8
  ·have HU2 := hide (show (!decide (0 ≤ Lib.idxFunc numP true num)) = nb by rw [HU.out, decide_eq_true hl, Bool.true_and])
   clear HU
   go_wp2_with fail
   have ev : ∀ args w, (callFunc 97 args).run Tryz.prog w = .ok (.enter 97 args) w := enters_of func97 (by kernel_rfl) rfl
   refine (Tryz.strings_ContainsFunc_runes 97 #[] ev numP num _ (num_pred _)).mono ?_
   rintro e w1 ⟨rfl, hb1⟩
   clear ev
   obtain ⟨z, hz⟩ : ∃ z, decide (0 ≤ Lib.idxFunc numP true num) = z := ⟨_, rfl⟩
   have HU3 := HU2.out
   rw [hz] at HU3
   rw [hz]
   clear HU2 hz
   subst HU3
   go_wp2_with fail
   go_meet
   exact ⟨rfl, hb1⟩
  ·have HU2 := HU.out
   rw [decide_eq_false hl, Bool.false_and] at HU2
   subst HU2
   go_wp2_with fail
   go_meet
   exact ⟨rfl, Below.refl _ _⟩
 case rest =>
  obtain ⟨rfl, hbc⟩ := hcut
  have hrow := iNext hx0 hbc
  have hb : Below w.heap.size w wc := bnext (by rw [hg]; exact hb0) hbc
  clear hg hx0 hbc hb0 HU c0 c1 c2 c3 c4 c5 c6
  generalize wc = w2 at *
  obtain ⟨c0, c1, c2, c3, c4, c5, c6⟩ := iCells hrow
  clear hrow
  replace HR := HR.out
  by_cases k1 : kd = 1
  ·rw [if_pos k1] at HR
   have k1b : (kd == 1) = true := beq_iff_eq.2 k1
   clear k1
   replace HR := hide HR
   cases nb with
   | false =>
    clear HN
    go_wp2_with fail
    go_ret
    first | exact ⟨ret_bool HR.out, hb⟩ | exact ⟨ret_bool (by rw [← HR.out]; first | exact decide_eq_false (by omega) | exact decide_eq_true (by omega)), hb⟩
   | true =>
    go_wp2_with fail
    refine (isName_any id nm HN.out hiz _).mono ?_
    rintro e w9 ⟨rfl, hw9⟩
    subst hw9
    clear HN
    cases nm with
    | false =>
     go_wp2_with fail
     go_ret
     first | exact ⟨ret_bool HR.out, hb⟩ | exact ⟨ret_bool (by rw [← HR.out]; first | exact decide_eq_false (by omega) | exact decide_eq_true (by omega)), hb⟩
    | true =>
     obtain ⟨n1, hn1⟩ : ∃ b, nor.toList.isEmpty = b := ⟨_, rfl⟩
     rw [hn1] at HR
     cases n1 with
     | false =>
      go_wp2_with fail
      go_ret
      first | exact ⟨ret_bool HR.out, hb⟩ | exact ⟨ret_bool (by rw [← HR.out]; first | exact decide_eq_false (by omega) | exact decide_eq_true (by omega)), hb⟩
     | true =>
      obtain ⟨n2, hn2⟩ : ∃ b, sou.toList.isEmpty = b := ⟨_, rfl⟩
      rw [hn2] at HR
      cases n2 with
      | false =>
       go_wp2_with fail
       go_ret
       first | exact ⟨ret_bool HR.out, hb⟩ | exact ⟨ret_bool (by rw [← HR.out]; first | exact decide_eq_false (by omega) | exact decide_eq_true (by omega)), hb⟩
      | true =>
       cases gon with
       | false =>
        go_wp2_with fail
        go_ret
        first | exact ⟨ret_bool HR.out, hb⟩ | exact ⟨ret_bool (by rw [← HR.out]; first | exact decide_eq_false (by omega) | exact decide_eq_true (by omega)), hb⟩
       | true =>
        go_wp2_with fail
        go_ret
        first | exact ⟨ret_bool HR.out, hb⟩ | exact ⟨ret_bool (by rw [← HR.out]; first | exact decide_eq_false (by omega) | exact decide_eq_true (by omega)), hb⟩
  ·rw [if_neg k1] at HR
   have k1b : (kd == 1) = false := beq_eq_false_iff_ne.2 k1
   clear k1
   by_cases k2 : kd = 2
   ·rw [if_pos k2] at HR
    have k2b : (kd == 2) = true := beq_iff_eq.2 k2
    clear k2
    replace HR := hide HR
    cases nb with
    | false =>
     clear HN
     go_wp2_with fail
     go_ret
     first | exact ⟨ret_bool HR.out, hb⟩ | exact ⟨ret_bool (by rw [← HR.out]; first | exact decide_eq_false (by omega) | exact decide_eq_true (by omega)), hb⟩
    | true =>
     go_wp2_with fail
     refine (isName_any id nm HN.out hiz _).mono ?_
     rintro e w9 ⟨rfl, hw9⟩
     subst hw9
     clear HN
     cases nm with
     | false =>
      go_wp2_with fail
      go_ret
      first | exact ⟨ret_bool HR.out, hb⟩ | exact ⟨ret_bool (by rw [← HR.out]; first | exact decide_eq_false (by omega) | exact decide_eq_true (by omega)), hb⟩
     | true =>
      by_cases d1 : (nor.size : Int) ≤ 400
      rotate_left
      ·rw [show decide (nor.size ≤ 400) = false from decide_eq_false (by omega)] at HR
       go_wp2_with fail
       go_ret
       first | exact ⟨ret_bool HR.out, hb⟩ | exact ⟨ret_bool (by rw [← HR.out]; first | exact decide_eq_false (by omega) | exact decide_eq_true (by omega)), hb⟩
      rw [show decide (nor.size ≤ 400) = true from decide_eq_true (by omega)] at HR
      by_cases d2 : (sou.size : Int) ≤ 400
      rotate_left
      ·rw [show decide (sou.size ≤ 400) = false from decide_eq_false (by omega)] at HR
       go_wp2_with fail
       go_ret
       first | exact ⟨ret_bool HR.out, hb⟩ | exact ⟨ret_bool (by rw [← HR.out]; first | exact decide_eq_false (by omega) | exact decide_eq_true (by omega)), hb⟩
      rw [show decide (sou.size ≤ 400) = true from decide_eq_true (by omega)] at HR
      go_wp2_with fail
      go_ret
      first | exact ⟨ret_bool HR.out, hb⟩ | exact ⟨ret_bool (by rw [← HR.out]; first | exact decide_eq_false (by omega) | exact decide_eq_true (by omega)), hb⟩
   ·rw [if_neg k2] at HR
    have k2b : (kd == 2) = false := beq_eq_false_iff_ne.2 k2
    clear k2
    replace HR := hide HR
    clear HN
    go_wp2_with fail
    go_ret
    first | exact ⟨ret_bool HR.out, hb⟩ | exact ⟨ret_bool (by rw [← HR.out]; first | exact decide_eq_false (by omega) | exact decide_eq_true (by omega)), hb⟩
namespace Dg
def visits (l : List It) : List (List ByteArray) := match walkTo l l.length with | none => [] | some (vs, _) => vs
theorem valid_walk {l : List It} (h : validC l = true) : ∃ s, walkTo l l.length = some (visits l, s) ∧ l.length ≤ 2000 := by
 unfold validC at h
 rw [Bool.and_eq_true, decide_eq_true_iff] at h
 unfold visits
 cases hw : walkTo l l.length with
 | none => rw [hw] at h; cases h.1
 | some p => obtain ⟨vs, s⟩ := p; exact ⟨s, rfl, h.2⟩
theorem visit_step {l : List It} {n : Nat} (hn : n ≤ l.length) {vs : List (List ByteArray)} {s : Wk} (h : walkTo l n = some (vs, s)) {k : Nat} (hk : k + 1 < n) (o o' : List ByteArray) (ho : vs[k]? = some o) (ho' : vs[k + 1]? = some o') : ∃ j, o' = (if l[k].kind = 1 then o ++ [l[k].id] else o).take j := by
 obtain ⟨s2, h2⟩ := walk_le hn h (k + 2) (by omega)
 obtain ⟨vs1, s1, o1, w1, st1, e1⟩ := walk_step (l := l) (k := k + 1) (by omega) h2
 obtain ⟨vs0, s0, o0, w0, st0, e0⟩ := walk_step (l := l) (k := k) (by omega) w1
 have l0 := walk_len (by omega) w0
 have l1 := walk_len (by omega) w1
 have a1 : (vs.take (k + 2))[k + 1]? = some o1 := by rw [e1, List.getElem?_append_right (by omega), l1]; simp
 have a0 : (vs.take (k + 2))[k]? = some o0 := by rw [e1, e0, List.append_assoc, List.getElem?_append_right (by omega), l0]; simp
 rw [List.getElem?_take_of_lt (by omega), ho'] at a1
 rw [List.getElem?_take_of_lt (by omega), ho] at a0
 injection a1 with a1
 injection a0 with a0
 subst a1 a0
 obtain ⟨_, _, j, _, c1, _, _⟩ := stepI_some st1
 obtain ⟨_, _, _, _, _, _, c2⟩ := stepI_some st0
 exact ⟨j, by rw [c1, c2]⟩
theorem visit_at {l : List It} {n : Nat} (hn : n ≤ l.length) {vs : List (List ByteArray)} {s : Wk} (h : walkTo l n = some (vs, s)) {k : Nat} (hk : k < n) : ∃ o, vs[k]? = some o ∧ (∀ x ∈ o, x ∈ (l.take k).map It.id) ∧ l[k].id ∉ (l.take k).map It.id ∧ (l[k].parent ≠ nil8 → l[k].parent ∈ o) ∧ properI l[k] = true := by
 obtain ⟨s1, h1⟩ := walk_le hn h (k + 1) (by omega)
 obtain ⟨vs0, s0, o0, w0, st0, e0⟩ := walk_step (l := l) (k := k) (by omega) h1
 have l0 := walk_len (by omega) w0
 have a0 : (vs.take (k + 1))[k]? = some o0 := by rw [e0, List.getElem?_append_right (by omega), l0]; simp
 rw [List.getElem?_take_of_lt (by omega)] at a0
 obtain ⟨b1, _, b3, _⟩ := walk_seen (by omega) w0
 obtain ⟨c0, c1, j, c2, c3, _, _⟩ := stepI_some st0
 refine ⟨o0, a0, fun x hx => ?_, ?_, fun hp => ?_, c0⟩
 ·rw [c3] at hx
  have := b3 x (List.mem_of_mem_take hx)
  rw [b1] at this
  exact List.mem_reverse.1 this
 ·rw [b1] at c1
  exact fun hm => c1 (List.mem_reverse.2 hm)
 ·unfold kOf at c2
  rw [if_neg hp] at c2
  split at c2
  ·rename_i hin
   injection c2 with c2
   rw [c3, ← c2]
   have hf : (s0.op.findIdx fun d => decide (d = l[k].parent)) < s0.op.length := List.findIdx_lt_length_of_exists ⟨_, (inB_iff _ _).1 hin, decide_eq_true rfl⟩
   have hg := List.findIdx_getElem (w := hf)
   have hg2 := of_decide_eq_true hg
   have hlt : (s0.op.findIdx fun d => decide (d = l[k].parent)) < (s0.op.take ((s0.op.findIdx fun d => decide (d = l[k].parent)) + 1)).length := by rw [List.length_take]; omega
   exact List.mem_iff_getElem.2 ⟨_, hlt, by rw [List.getElem_take]; exact hg2⟩
  ·cases c2
theorem ids_ne {l : List It} {n : Nat} (hn : n ≤ l.length) {vs : List (List ByteArray)} {s : Wk} (h : walkTo l n = some (vs, s)) {i k : Nat} (hi : i < k) (hk : k < n) : l[i].id ≠ l[k].id := fun e => by
 obtain ⟨_, _, _, h2, _⟩ := visit_at hn h hk
 refine h2 ?_
 rw [← e]
 refine List.mem_map.2 ⟨l[i], List.mem_iff_getElem.2 ⟨i, by rw [List.length_take]; omega, List.getElem_take⟩, rfl⟩
theorem below_run {l : List It} {n : Nat} (hn : n ≤ l.length) {vs : List (List ByteArray)} {s : Wk} (h : walkTo l n = some (vs, s)) {i : Nat} (hi : i < n) : ∃ m, i + m < n ∧ (0 < m → l[i].kind = 1) ∧ ∀ k, k < n → ∀ o, vs[k]? = some o → (l[i].id ∈ o ↔ i < k ∧ k ≤ i + m) := by
 have hup : ∀ k, i < k → k + 1 < n → ∀ o o', vs[k]? = some o → vs[k + 1]? = some o' → l[i].id ∈ o' → l[i].id ∈ o := fun k hik hk o o' ho ho' hm => by
  obtain ⟨j, rfl⟩ := visit_step hn h hk o o' ho ho'
  have h1 := List.mem_of_mem_take hm
  split at h1
  ·rcases List.mem_append.1 h1 with h2 | h2
   ·exact h2
   ·exact absurd (List.mem_singleton.1 h2) (ids_ne hn h hik (by omega))
  ·exact h1
 have hfirst : ∀ o', i + 1 < n → vs[i + 1]? = some o' → l[i].id ∈ o' → l[i].kind = 1 := fun o' hk ho' hm => by
  obtain ⟨o, ho, h1, h2, _⟩ := visit_at hn h hi
  obtain ⟨j, rfl⟩ := visit_step hn h hk o o' ho ho'
  have h3 := List.mem_of_mem_take hm
  split at h3
  ·assumption
  ·exact absurd (h1 _ h3) h2
 have hlow : ∀ k, k ≤ i → ∀ o, vs[k]? = some o → l[i].id ∉ o := fun k hk o ho hm => by
  obtain ⟨o2, ho2, h1, _⟩ := visit_at hn h (k := k) (by omega)
  rw [ho] at ho2
  injection ho2 with ho2
  subst ho2
  have h2 := h1 _ hm
  obtain ⟨_, _, _, h3, _⟩ := visit_at hn h hi
  refine h3 ?_
  obtain ⟨x, hx, e⟩ := List.mem_map.1 h2
  refine List.mem_map.2 ⟨x, ?_, e⟩
  obtain ⟨j, hj, rfl⟩ := List.mem_iff_getElem.1 hx
  rw [List.length_take] at hj
  rw [List.getElem_take]
  exact List.mem_iff_getElem.2 ⟨j, by rw [List.length_take]; omega, List.getElem_take⟩
 have key : ∀ N, i < N → N ≤ n → ∃ m, i + m < N ∧ (0 < m → l[i].kind = 1) ∧ ∀ k, k < N → ∀ o, vs[k]? = some o → (l[i].id ∈ o ↔ i < k ∧ k ≤ i + m) := by
  intro N
  induction N with
  | zero => intro h0; omega
  | succ N ih =>
   intro h0 hN
   by_cases hiN : i = N
   ·refine ⟨0, by omega, by omega, fun k hk o ho => ⟨fun hm => absurd hm (hlow k (by omega) o ho), fun hh => by omega⟩⟩
   ·obtain ⟨m, m1, m2, m3⟩ := ih (by omega) (by omega)
    obtain ⟨oN, hoN, _⟩ := visit_at hn h (k := N) (by omega)
    by_cases hmem : l[i].id ∈ oN
    ·have hmN : i + m + 1 = N := by
      by_cases e : i + 1 = N
      ·omega
      ·obtain ⟨N', rfl⟩ : ∃ N', N = N' + 1 := ⟨N - 1, by omega⟩
       obtain ⟨o', ho', _⟩ := visit_at hn h (k := N') (by omega)
       have := (m3 N' (by omega) o' ho').1 (hup N' (by omega) (by omega) o' oN ho' hoN hmem)
       omega
     refine ⟨m + 1, by omega, fun _ => ?_, fun k hk o ho => ?_⟩
     ·by_cases e : i + 1 = N
      ·subst e; exact hfirst oN (by omega) hoN hmem
      ·exact m2 (by omega)
     ·by_cases e : k = N
      ·subst e
       rw [hoN] at ho
       injection ho with ho
       subst ho
       exact ⟨fun _ => by omega, fun _ => hmem⟩
      ·rw [m3 k (by omega) o ho]; omega
    ·refine ⟨m, by omega, m2, fun k hk o ho => ?_⟩
     by_cases e : k = N
     ·subst e
      rw [hoN] at ho
      injection ho with ho
      subst ho
      exact ⟨fun hm => absurd hm hmem, fun hh => by omega⟩
     ·exact m3 k (by omega) o ho
 exact key n hi (Nat.le_refl _)
end Dg
theorem lawStr : Keyed Tryz.prog 9 := string_keyed underlying9
theorem key_str (s : ByteArray) (hs : s.size ≤ 9223372036854775807) : keyOf Tryz.prog 9 (.string s) = some (.string s.data.toList) :=
 Go.WideMaps.keyOf_string_mk underlying9 hs
theorem plainElem_bool_inv {v : Value} {z : DataW Unit × List MemPlace} (h : plainElem Tryz.prog 4 v = some z) : ∃ x, v = .bool x ∧ z = (.lit (.bool x), []) := by
 unfold plainElem at h
 rw [underlying4] at h
 split at h
 ·cases h; exact ⟨_, rfl, rfl⟩
 ·rename_i h1; cases h1
 ·rename_i h1; cases h1
 ·cases h
noncomputable def rBo : Value → Option (DataW Unit × List MemPlace) := plainElem Tryz.prog 4
noncomputable def seenS : List ByteArray → DataW Unit
 | [] => .map []
 | m :: s => (seenS s).put (.string m.data.toList) (.lit (.bool true))
theorem seenS_isMap : ∀ s, IsMap (seenS s)
 | [] => isMap_empty
 | _ :: s => (seenS_isMap s).put _ _
theorem seenS_at (m : ByteArray) : ∀ s, (seenS s).atKey (.string m.data.toList) (.lit (.bool false)) = .lit (.bool (Dg.inB s m))
 | [] => rfl
 | x :: s => by
  by_cases h : x = m
  ·subst h
   rw [seenS, atKey_put_same (seenS_isMap s) (by trivial)]
   simp [Dg.inB]
  ·rw [seenS, atKey_put_other (fun e => h (by
    obtain ⟨d⟩ := x; obtain ⟨d'⟩ := m
    injection e with e
    exact congrArg ByteArray.mk (Array.toList_inj.1 e.symm))), seenS_at m s]
   simp [Dg.inB, h]
theorem seenS_run {W : World} {mb N : Nat} {s : List ByteArray} (h : W.ownsMap Tryz.prog 9 rBo mb N (seenS s)) (m : ByteArray) (hm : m.size ≤ 9223372036854775807) :
  (Instr.lookup 149 (.map (some mb)) (.string m) false).run Tryz.prog W = .ok (.bool (Dg.inB s m)) W := by
 obtain ⟨v, ps, hrun, hv⟩ := h.lookup lawStr underlying149 (z := .bool false) (by kernel_rfl) (plainElem_bool underlying4 false) (key_str m hm)
 rw [seenS_at] at hv
 obtain ⟨x, rfl, hx⟩ := plainElem_bool_inv hv
 injection hx with hx _
 injection hx with hx
 injection hx with hx
 rw [hx]
 exact hrun
structure OpenAt (S : List Nat) (w : World) (A : Option Addr) (l : List ByteArray) : Prop where
 at_ : 0 < l.length → ∃ b, A = some ⟨b, 0, none⟩ ∧ b < w.heap.size ∧ b ∉ S ∧ ∀ (j : Nat) (s : ByteArray), l[j]? = some s → w.cell? ⟨b, j, none⟩ = some (.string s)
theorem OpenAt.nil (S : List Nat) (w : World) (A : Option Addr) : OpenAt S w A [] := ⟨fun h => by simp at h⟩
theorem OpenAt.strs {S : List Nat} {w : World} {A : Option Addr} {l : List ByteArray} (h : OpenAt S w A l) : Strs w w.heap.size A l :=
 ⟨fun h0 => by
  obtain ⟨b, e, hb, _, hc⟩ := h.at_ h0
  exact ⟨b, 0, e, hb, fun j s hj => by rw [Nat.zero_add]; exact hc j s hj⟩⟩
theorem OpenAt.take {S : List Nat} {w : World} {A : Option Addr} {l : List ByteArray} (h : OpenAt S w A l) (k : Nat) : OpenAt S w A (l.take k) :=
 ⟨fun h0 => by
  rw [List.length_take] at h0
  obtain ⟨b, e, hb, hn, hc⟩ := h.at_ (by omega)
  exact ⟨b, e, hb, hn, fun j s hj => hc j s (by rw [List.getElem?_take] at hj; split at hj; exact hj; cases hj)⟩⟩
theorem OpenAt.off {S T : List Nat} {w w' : World} {A : Option Addr} {l : List ByteArray} (h : OpenAt S w A l) (ho : Off S w w') (hT : ∀ g ∈ T, g ∈ S ∨ w.heap.size ≤ g) : OpenAt T w' A l :=
 ⟨fun h0 => by
  obtain ⟨b, e, hb, hn, hc⟩ := h.at_ h0
  refine ⟨b, e, Nat.lt_of_lt_of_le hb ho.size, fun hm => ?_, fun j s hj => ?_⟩
  ·rcases hT b hm with h1 | h1
   ·exact hn h1
   ·omega
  ·exact (World.cell?_of_block (w := w) (w' := w') (a := ⟨b, j, none⟩) (ho.block b hb hn)).trans (hc j s hj)⟩
theorem OpenAt.own {S : List Nat} {w : World} {B : Nat} {v : Value} {l : List ByteArray} (h : OwnS w B v l) (hS : ∀ g ∈ S, g < B) : ∃ A c, v = .slice A l.length c ∧ l.length ≤ c ∧ OpenAt S w A l := by
 rcases h.cases with ⟨rfl, rfl⟩ | ⟨g, cap, rfl, hB, hg, hc, hcell, _⟩
 ·exact ⟨none, 0, rfl, by simp, OpenAt.nil _ _ _⟩
 ·exact ⟨_, cap, rfl, hc, ⟨fun _ => ⟨g, rfl, hg, fun hm => by have := hS g hm; omega, hcell⟩⟩⟩
structure Visit (l : List Dg.It) (F : Nat) (lb : Array Value) (B0 n0 : Nat) (Inv : Nat → List Nat → World → Prop) : Prop where
 enters : ∀ args w, (callFunc F args).run Tryz.prog w = .ok (.enter F args) w
 stable : ∀ k S W W', Inv k S W → (∀ g ∈ S, W'.heap[g]? = W.heap[g]?) → Below n0 W W' → Inv k S W'
 lt : ∀ k S W, Inv k S W → ∀ g ∈ S, B0 ≤ g ∧ g < W.heap.size
 call : ∀ (k : Nat) (S : List Nat) (W : World) (o : List ByteArray) (A : Option Addr) (c : Nat) (vs : List (List ByteArray)) (s : Dg.Wk), k < l.length → Inv k S W → Dg.walkTo l (k + 1) = some (vs ++ [o], s) → vs.length = k →
  Strs W W.heap.size A o → o.length ≤ c → n0 ≤ W.heap.size →
  Calls Tryz.prog F (#[.int .i64 (k : Int), .slice A o.length c] ++ lb) W fun e W' => e = .returned (.tuple #[]) ∧ ∃ S', Inv (k + 1) S' W' ∧ Off S W W' ∧ ∀ g ∈ S', g ∈ S ∨ W.heap.size ≤ g
theorem idx_from (x : ByteArray) : ∀ (l : List ByteArray) (i : Nat), Lib.idxFromS l x i = if Dg.inB l x = true then ((i + l.findIdx (fun d => decide (d = x)) : Nat) : Int) else -1
 | [], i => by simp [Lib.idxFromS, Dg.inB]
 | z :: l, i => by
  by_cases h : z = x
  ·subst h
   simp [Lib.idxFromS, Dg.inB, List.findIdx_cons]
  ·have h2 : ¬ x = z := fun e => h e.symm
   rw [Lib.idxFromS, idx_from x l (i + 1)]
   have e1 : Dg.inB (z :: l) x = Dg.inB l x := by simp [Dg.inB, h]
   rw [e1, List.findIdx_cons, decide_eq_false h]
   simp only [h, if_false, cond_false]
   split
   ·congr 1; omega
   ·rfl
theorem idx_yes {l : List ByteArray} {x : ByteArray} (h : Dg.inB l x = true) : Lib.idxOfS l x = ((l.findIdx (fun d => decide (d = x)) : Nat) : Int) := by
 rw [Lib.idxOfS, idx_from, if_pos h, Nat.zero_add]
theorem idx_no {l : List ByteArray} {x : ByteArray} (h : Dg.inB l x = false) : Lib.idxOfS l x = -1 := by
 rw [Lib.idxOfS, idx_from, if_neg (by rw [h]; exact Bool.false_ne_true)]
theorem strs_cells {w : World} {b off : Nat} {l : List ByteArray} (hc : ∀ (j : Nat) (s : ByteArray), l[j]? = some s → w.cell? ⟨b, off + j, none⟩ = some (.string s)) : ∀ j, j < l.length → w.cell? ⟨b, off + j, none⟩ = some (.string (l.getD j ByteArray.empty)) := fun j hj => by
 rw [hc j l[j] (List.getElem?_eq_getElem hj), List.getD_eq_getElem?_getD, List.getElem?_eq_getElem hj]; rfl
theorem sindex_s (A : Option Addr) (n c : Nat) (l : List ByteArray) (x : ByteArray) (w : World) (hl : l.length = n) (hn : n ≤ 1099511627776) (hS : Strs w w.heap.size A l) :
  Calls Tryz.prog 72 #[.slice A n c, .string x] w fun e w' => e = .returned (.int .i64 (Lib.idxOfS l x)) ∧ w' = w := by
 subst hl
 rcases Nat.eq_zero_or_pos l.length with h0 | h0
 ·obtain rfl := List.length_eq_zero_iff.1 h0
  exact Tryz.slices_Index_string_empty A c x w
 ·obtain ⟨b, off, rfl, hb, hc⟩ := hS.at_ h0
  have := Tryz.slices_Index_string b off l.length c l x w (Nat.le_refl _) (by omega) (strs_cells hc)
  rw [List.take_length] at this
  exact this
theorem scontains_s (A : Option Addr) (n c : Nat) (l : List ByteArray) (x : ByteArray) (w : World) (hl : l.length = n) (hn : n ≤ 1099511627776) (hS : Strs w w.heap.size A l) (R : Bool) (hR : Dg.inB l x = R) :
  Calls Tryz.prog 115 #[.slice A n c, .string x] w fun e w' => e = .returned (.bool R) ∧ w' = w := by
 subst hl
 have key : Lib.containsS l x = R := by
  rw [← hR, Bool.eq_iff_iff, Lib.containsS_iff, Dg.inB_iff]
 rcases Nat.eq_zero_or_pos l.length with h0 | h0
 ·obtain rfl := List.length_eq_zero_iff.1 h0
  rw [← hR]
  exact Tryz.slices_Contains_string_empty A c x w
 ·obtain ⟨b, off, rfl, hb, hc⟩ := hS.at_ h0
  have := Tryz.slices_Contains_string b off l.length c l x w (Nat.le_refl _) (by omega) (strs_cells hc)
  rw [List.take_length, key] at this
  exact this
theorem bad_step {l : List Dg.It} {k : Nat} (hk : k < l.length) {vs : List (List ByteArray)} {s : Dg.Wk} (h : Dg.walkTo l k = some (vs, s)) (hs : Dg.stepI s l[k] = none) : Dg.validC l = false := by
 rw [Bool.eq_false_iff]
 intro hv
 obtain ⟨s1, h1, _⟩ := Dg.valid_walk hv
 obtain ⟨s2, h2⟩ := Dg.walk_le (Nat.le_refl _) h1 (k + 1) hk
 obtain ⟨vs0, s3, o, h3, h4, _⟩ := Dg.walk_step hk h2
 rw [h] at h3
 cases h3
 rw [hs] at h4
 cases h4
theorem good_step {l : List Dg.It} {k : Nat} (hk : k < l.length) {vs : List (List ByteArray)} {s s' : Dg.Wk} {o : List ByteArray} (h : Dg.walkTo l k = some (vs, s)) (hs : Dg.stepI s l[k] = some (o, s')) : Dg.walkTo l (k + 1) = some (vs ++ [o], s') := by
 rw [Dg.walkTo_succ l k hk, h]
 simp only [hs]
theorem op_len {l : List Dg.It} : ∀ {k : Nat} (_ : k ≤ l.length) {vs : List (List ByteArray)} {s : Dg.Wk}, Dg.walkTo l k = some (vs, s) → s.op.length ≤ k
 | 0, _, vs, s, h => by
  simp only [Dg.walkTo] at h
  cases h
  exact Nat.le_refl _
 | k + 1, hk, vs, s, h => by
  obtain ⟨vs0, s0, o, h1, h2, _⟩ := Dg.walk_step hk h
  have h3 := op_len (by omega) h1
  obtain ⟨_, _, j, _, ho, _, hop⟩ := Dg.stepI_some h2
  have h4 : o.length ≤ s0.op.length := by rw [ho, List.length_take]; omega
  rw [hop]
  split
  ·rw [List.length_append, List.length_singleton]; omega
  ·omega
theorem kk_facts {f k m n c : Nat} (h : f + 1 = k) (hf : f < m) (hm : m ≤ n) (hn : n ≤ 1048576) (hc : m ≤ c) : wrap64 ((f : Int) + 1) = (k : Int) ∧ ((k : Int) == 0) = false ∧ k ≤ m ∧ (k : Int) ≤ (m : Int) ∧ (k : Int) ≤ (c : Int) ∧ (0 : Int) ≤ (k : Int) := by
 refine ⟨?_, beq_eq_false_iff_ne.2 (by omega), by omega, by omega, by omega, by omega⟩
 rw [IntWalk.wrap64_in _ (by omega)]
 omega
theorem step_some (s : Dg.Wk) (x : Dg.It) (h1 : Dg.properI x = true) (h2 : Dg.inB s.seen x.id = false) (k : Nat) (hk : Dg.kOf s.op x.parent = some k) : Dg.stepI s x = some (s.op.take k, ⟨x.id :: s.seen, if x.kind = 1 then s.op.take k ++ [x.id] else s.op.take k⟩) := by
 unfold Dg.stepI
 rw [if_pos ⟨h1, h2⟩, hk]
theorem step_none3 (s : Dg.Wk) (x : Dg.It) (h1 : Dg.properI x = true) (h2 : Dg.inB s.seen x.id = false) (hk : Dg.kOf s.op x.parent = none) : Dg.stepI s x = none := by
 unfold Dg.stepI
 rw [if_pos ⟨h1, h2⟩, hk]
theorem step_none1 (s : Dg.Wk) (x : Dg.It) (h1 : Dg.properI x = false) : Dg.stepI s x = none := by
 unfold Dg.stepI
 rw [if_neg (fun h => by rw [h1] at h; exact absurd h.1 Bool.false_ne_true)]
theorem step_none2 (s : Dg.Wk) (x : Dg.It) (h1 : Dg.inB s.seen x.id = true) : Dg.stepI s x = none := by
 unfold Dg.stepI
 rw [if_neg (fun h => by rw [h1] at h; exact absurd h.2 (by simp))]
theorem Off.wide {S T : List Nat} {w w' : World} (h : Off S w w') (hT : ∀ g ∈ S, g ∈ T) : Off T w w' := ⟨h.os, h.tape, h.output, h.size, fun k hk hn => h.block k hk fun hm => hn (hT k hm)⟩
theorem grown_belowN {w w' : World} (hg : w.grownBy w' none) : Below w.heap.size w w' := ⟨hg.os, hg.tape, hg.output, hg.size, fun k hk => hg.block k hk (by simp)⟩
theorem iCells0 {w : World} {g : Nat} {a0 : Value} {T : TypeId} (h : w.heap[g]? = some (.cells #[a0] T (0, 0))) : w.cell? ⟨g, 0, none⟩ = some a0 := by
 rw [cell_of_row _ _ _ _ _ (0, 0) h]; rfl
theorem walk_any (l : List Dg.It) (A : Option Addr) (n c : Nat) (hl : l.length = n) (hw : ∀ x ∈ l, ItW x) (hn : n ≤ 1048576) (B0 : Nat) (w : World) (hI : Its w B0 A l) (hB : B0 ≤ w.heap.size)
  (F : Nat) (lb : Array Value) (Inv : Nat → List Nat → World → Prop) (hv : Visit l F lb B0 w.heap.size Inv) (S0 : List Nat) (h0 : Inv 0 S0 w) (R : Bool) (hR : Dg.validC l = R) :
  Calls Tryz.prog 38 #[.agg #[.slice A n c], .func (.func F) #[] lb] w fun e w' => e = .returned (.bool R) ∧ ∃ k S, (R = true → k = n) ∧ Inv k S w' ∧ Off S0 w w' ∧ ∀ g ∈ S, g ∈ S0 ∨ w.heap.size ≤ g := by
 have HR := hide hR; have HW := hide hw; have HL := hide hl; have HI := hide h0; have HV := hide hv; have HT := hide hI
 have hlt0 := hide (hv.lt 0 S0 w h0)
 clear hR hw hl h0 hv hI
 have hmm := @run_makeMap Tryz.prog
 have hx1 := nwB w (.cells #[.slice A n c] 24)
 have hx2 := Below.news (Below.refl (w.alloc (.cells #[.slice A n c] 24)).heap.size (w.alloc (.cells #[.slice A n c] 24))) (.map #[] 0)
 have hs1 : (w.alloc (.cells #[.slice A n c] 24)).heap.size = w.heap.size + 1 := by simp
 have hmap := World.ownsMap_made (w.alloc (.cells #[.slice A n c] 24)) Tryz.prog 9 rBo
 rw [hs1] at hmap
 have hc0 : ((w.alloc (.cells #[.slice A n c] 24)).alloc (.map #[] 0)).heap[w.heap.size]? = some (.cells #[.slice A n c] 24 (0, 0)) := iNext (heap_alloc_new w _) hx2
 have hb := bnext hx1 hx2
 have hs2 : ((w.alloc (.cells #[.slice A n c] 24)).alloc (.map #[] 0)).heap.size = w.heap.size + 2 := by simp
 clear hx1 hx2
 go_enter func38, ntmps38
 go_upto_region 3 with (fail)
 have hcc := iCells0 hc0
 obtain ⟨W0, hW0⟩ : ∃ W, (w.alloc (.cells #[.slice A n c] 24)).alloc (.map #[] 0) = W := ⟨_, rfl⟩
 rw [hW0] at hb hmap hc0 hcc hs2 ⊢
 clear hs1 hW0 hmm
 have hB2 := hide hs2
 clear hs2
 obtain ⟨mb, hmb⟩ : ∃ m, w.heap.size + 1 = m := ⟨_, rfl⟩
 rw [hmb] at hmap ⊢
 have hS0 : Hid (∀ g ∈ S0, g < w.heap.size) := fun g hg => (hlt0.out g hg).2
 go_wp2_with fail
 clear hcc
 have hst := hide ((HV.out).stable 0 S0 w W0 HI.out (fun g hg => hb.block g (hS0.out g hg)) hb)
 have hB2' : Hid (w.heap.size + 2 ≤ W0.heap.size) := Nat.le_of_eq hB2.out.symm
 clear hB2
 have HB2 := hB2'; clear hB2'
 go_loopw [6, 14] (fun ov iv wr => ∃ (k : Nat) (vs : List (List ByteArray)) (s : Dg.Wk) (Ao : Option Addr) (co : Nat) (S : List Nat), k ≤ n ∧ iv = .int .i64 k ∧ ov = .slice Ao s.op.length co ∧ s.op.length ≤ co ∧ Hid (Dg.walkTo l k = some (vs, s)) ∧ OpenAt (mb :: S) wr Ao s.op ∧
   wr.ownsMap Tryz.prog 9 rBo mb k (seenS s.seen) ∧ Hid (Inv k S wr) ∧ Off (mb :: S0) W0 wr ∧ Hid (∀ g ∈ S, g ∈ S0 ∨ W0.heap.size ≤ g)) (fun _ iv _ => n - (intOf iv).toNat)
 case atStart => exact ⟨0, [], ⟨[], []⟩, none, 0, S0, by omega, rfl, rfl, Nat.le_refl _, rfl, OpenAt.nil _ _ _, hmap, hst, Off.refl _ _, fun g hg => Or.inl hg⟩
 case round =>
  obtain ⟨k, vs, s, Ao, co, S, hk, rfl, rfl, hco, hwt, hop, hMr, hiv, hofr, hSr⟩ := hrel
  clear hmap hst
  have hmlt := hMr.lt
  have hoff : Hid (Off S0 w wr) := (Off.of_below hb).trans hofr (fun g hg => by
   rcases List.mem_cons.1 hg with rfl | hg
   ·exact Or.inr (by omega)
   ·exact Or.inl hg)
  have hmS : Hid (mb ∉ S) := fun hm => by
   rcases hSr.out mb hm with h1 | h1
   ·have := hS0.out mb h1; omega
   ·have := HB2.out; omega
  have hop_ := hide (op_len (by rw [HL.out]; exact hk) hwt.out)
  by_cases hlt : k < n
  ·have hkl : k < l.length := by rw [HL.out]; exact hlt
   have hbB : Below B0 w wr := hoff.out.below hB (fun g hg => (hlt0.out g hg).1)
   obtain ⟨b, off, rfl, hbl, hcc⟩ := (HT.out.below hbB).get hkl
   have hxw := hide (HW.out l[k] (List.getElem_mem hkl))
   have hbad := hide (fun hs => bad_step hkl hwt.out hs)
   have hgood := hide (fun o s' hs => good_step (s' := s') (o := o) hkl hwt.out hs)
   generalize l[k] = x at *
   have p0 : wr.cell? ⟨b, off + k * 7, none⟩ = some (.int .i64 x.kind) := hcc 0 _ rfl
   have p1 : wr.cell? ⟨b, off + k * 7 + 1, none⟩ = some (.string x.id) := hcc 1 _ rfl
   have p2 : wr.cell? ⟨b, off + k * 7 + 2, none⟩ = some (.string x.parent) := hcc 2 _ rfl
   have p3 : wr.cell? ⟨b, off + k * 7 + 3, none⟩ = some (.string x.number) := hcc 3 _ rfl
   have p4 : wr.cell? ⟨b, off + k * 7 + 4, none⟩ = some (.string x.north) := hcc 4 _ rfl
   have p5 : wr.cell? ⟨b, off + k * 7 + 5, none⟩ = some (.string x.south) := hcc 5 _ rfl
   have p6 : wr.cell? ⟨b, off + k * 7 + 6, none⟩ = some (.bool x.gone) := hcc 6 _ rfl
   clear hcc
   have hk0 : (0 : Int) ≤ (k : Int) := by omega
   have hkn : (k : Int) < (n : Int) := by omega
   have hx := nwB wr (.cells (Rv0 x) 51)
   have hrow := heap_alloc_new wr (.cells (Rv0 x) 51)
   go_wp2_with fail
   clear p0 p1 p2 p3 p4 p5 p6
   have hxb := hide (show Off S0 w wr ∧ Inv k S wr from ⟨hoff.out, hiv.out⟩)
   have hfin : Hid (∀ W, Off [mb] wr W → ∃ k S, (false = true → k = n) ∧ Inv k S W ∧ Off S0 w W ∧ ∀ g ∈ S, g ∈ S0 ∨ w.heap.size ≤ g) := fun W hW => by
    have hsz := hoff.out.size
    have hbw : Below w.heap.size wr W := hW.below hsz (fun g hg => by rw [List.mem_singleton.1 hg]; omega)
    refine ⟨k, S, (fun h => by cases h), HV.out.stable k S wr W hiv.out (fun g hg => hW.block g (HV.out.lt k S wr hiv.out g hg).2 (fun hm => hmS.out (by rw [← List.mem_singleton.1 hm]; exact hg))) hbw, hoff.out.trans hW (fun g hg => Or.inr (by rw [List.mem_singleton.1 hg]; omega)), fun g hg => (hSr.out g hg).imp id (fun h => by have := HB2.out; omega)⟩
   clear hxb
   generalize wr.alloc (.cells (Rv0 x) 51) = w1 at *
   obtain ⟨pb, hpb⟩ : ∃ b, Dg.properI x = b := ⟨_, rfl⟩
   refine (item_any x pb hpb hxw.out _).mono ?_
   rintro e w2 ⟨rfl, hb2⟩
   have hx2 := bnext hx hb2
   have hrow2 := iNext hrow hb2
   have hM2 := ownsMap_off (S := []) hMr (Off.of_below hx2) (by simp)
   clear hrow hx hb2 hMr
   obtain ⟨c0, c1, c2, c3, c4, c5, c6⟩ := iCells hrow2
   cases pb with
   | false =>
    have hR0 := hide (show false = R by rw [← HR.out]; exact (hbad.out (step_none1 s x hpb)).symm)
    clear hpb hM2
    go_wp2
    go_ret
    exact ⟨ret_bool hR0.out, by rw [← hR0.out]; exact hfin.out _ (Off.of_below hx2)⟩
   | true =>
    have hpb' := hide hpb; clear hpb
    obtain ⟨sb, hsb⟩ : ∃ b, Dg.inB s.seen x.id = b := ⟨_, rfl⟩
    have hrun := seenS_run hM2 x.id hxw.out.iz
    rw [hsb] at hrun
    cases sb with
    | true =>
     have hR0 := hide (show false = R by rw [← HR.out]; exact (hbad.out (step_none2 s x hsb)).symm)
     clear hsb hM2
     go_wp2
     go_ret
     exact ⟨ret_bool hR0.out, by rw [← hR0.out]; exact hfin.out _ (Off.of_below hx2)⟩
    | false =>
     have hsb' := hide hsb; clear hsb
     obtain ⟨w3, hrun3, hM3, hgr⟩ := World.ownsMap.update (w := w2) hM2 lawStr underlying149 (by unfold maxLen; omega) (key_str x.id hxw.out.iz) (plainElem_bool (H := Unit) underlying4 true)
     have ho3 : Off [mb] wr w3 := (Off.of_below (S := [mb]) hx2).trans (T := [mb]) (Off.of_grown hgr (fun j hj => by cases hj; simp)) (fun g hg => Or.inl hg)
     have hpe : x.parent.toList.isEmpty = decide (x.parent = Dg.nil8) := (emp_iff _).symm
     have HO3 := hide ho3; clear ho3
     go_upto_region 10 with (fail)
     have hrow3 : w3.heap[wr.heap.size]? = some (.cells (Rv0 x) 51 (0, 0)) := (hgr.block _ (lt_of_block hrow2) (by intro e; cases e; omega)).trans hrow2
     have hop3 : OpenAt (mb :: S) w3 Ao s.op := hop.off (HO3.out.wide (fun g hg => by rw [List.mem_singleton.1 hg]; exact List.mem_cons_self ..)) (fun g hg => Or.inl hg)
     clear c0 c1 c2 c3 c4 c5 c6 hrun hrun3 hgr hrow2 hM2 hx2 hop
     obtain ⟨c0, c1, c2, c3, c4, c5, c6⟩ := iCells hrow3
     have hs3 := hide HO3.out.size
     by_cases hp : x.parent = Dg.nil8
     ·have hko := hide (show Dg.kOf s.op x.parent = some 0 by unfold Dg.kOf; rw [if_pos hp])
      have hpb : x.parent.toList.isEmpty = true := hpe.trans (decide_eq_true hp)
      clear hpe hp
      have hop0 := hop_.out
      go_upto_region 14 with (fail)
      obtain ⟨kk, hkk⟩ : ∃ kk : Nat, kk = 0 := ⟨0, rfl⟩
      rw [show Value.int .i64 0 = Value.int .i64 (kk : Int) by rw [hkk]; rfl]
      have hko2 := hide (show Dg.kOf s.op x.parent = some kk by rw [hkk]; exact hko.out)
      clear hko
      have hko := hko2
      clear hko2
      have hk1 : kk ≤ s.op.length := by omega
      have hk1I : (kk : Int) ≤ (s.op.length : Int) := by omega
      have hk1c : (kk : Int) ≤ (co : Int) := by omega
      have hk0' : (0 : Int) ≤ (kk : Int) := by omega
      clear hkk
      have hwl := Dg.walk_len (by omega) hwt.out
      have ho_len : (s.op.take kk).length = kk := by rw [List.length_take]; omega
      have hst' := step_some s x hpb'.out hsb'.out _ hko.out
      have hwt' := hgood.out _ _ hst'
      have hbw3 : Below w.heap.size wr w3 := HO3.out.below hoff.out.size (fun g hg => by rw [List.mem_singleton.1 hg]; omega)
      have hIv3 := (HV.out).stable k S wr w3 hiv.out (fun g hg => HO3.out.block g ((HV.out).lt k S wr hiv.out g hg).2 (fun hm => hmS.out (by rw [← List.mem_singleton.1 hm]; exact hg))) hbw3
      have hnS : Hid (wr.heap.size ∉ S) := fun hm => by have := ((HV.out).lt k S wr hiv.out _ hm).2; omega
      have hopk := hop3.take kk
      have hcall := (HV.out).call k S w3 (s.op.take kk) Ao kk vs _ hkl hIv3 hwt' hwl hopk.strs (Nat.le_of_eq ho_len) (Nat.le_trans hoff.out.size hs3.out)
      rw [ho_len] at hcall
      have HC := hide hcall; have HWT := hide hwt'; have HOL := hide ho_len; have HKO := hide hko.out
      clear hcall hwt' hst' hIv3 hwl ho_len hko
      have en := (HV.out).enters
      go_wp2_with fail
      clear en
      refine HC.out.mono ?_
      rintro e w5 ⟨rfl, S', hI5, ho5, hS5⟩
      have hrow5 := ho5.row hrow3 hnS.out
      have hM5 := ownsMap_off hM3 ho5 hmS.out
      have hoff5 : Off (mb :: S0) W0 w5 := (hofr.trans HO3.out (fun g hg => Or.inl (by rw [List.mem_singleton.1 hg]; exact List.mem_cons_self ..))).trans ho5 (fun g hg => (hSr.out g hg).imp (fun h => List.mem_cons_of_mem _ h) id)
      have hS5' : Hid (∀ g ∈ S', g ∈ S0 ∨ W0.heap.size ≤ g) := fun g hg => by
       rcases hS5 g hg with h1 | h1
       ·exact hSr.out g h1
       ·exact Or.inr (by have := hofr.size; have := HO3.out.size; omega)
      have hop5 : OpenAt (mb :: S') w5 Ao (s.op.take kk) := hopk.off (ho5.wide (fun g hg => List.mem_cons_of_mem _ hg)) (fun g hg => by
       rcases List.mem_cons.1 hg with rfl | hg
       ·exact Or.inl (List.mem_cons_self ..)
       ·exact (hS5 g hg).imp (fun h => List.mem_cons_of_mem _ h) id)
      have hsz5 := hide ho5.size
      have hI5' := hide hI5
      have hlt5 := hide ((HV.out).lt _ _ _ hI5)
      clear c0 c1 c2 c3 c4 c5 c6 hrow3 hM3 ho5 hS5 hop3 hopk hI5 HC
      obtain ⟨c0, c1, c2, c3, c4, c5, c6⟩ := iCells hrow5
      have hM6 : w5.ownsMap Tryz.prog 9 rBo mb (k + 1) (seenS (x.id :: s.seen)) := hM5
      clear hM5
      by_cases hkd : x.kind = 1
      ·have kb : (x.kind == 1) = true := beq_iff_eq.2 hkd
       have HWT2 := HWT.out
       rw [if_pos hkd] at HWT2
       have HW3 := hide HWT2
       clear hkd HWT HWT2 hrow5
       obtain ⟨ti, ti1, ti2, ti3, ti4⟩ := info_parts strInfo
       have TI := hide (And.intro ti1 (And.intro ti2 (And.intro ti3 ti4)))
       clear ti1 ti2 ti3 ti4
       have hnone : Hid (Ao = none → kk = 0 ∧ kk = 0) := fun e => by
        rcases Nat.eq_zero_or_pos kk with h0 | h0
        ·exact ⟨h0, h0⟩
        ·obtain ⟨b', e', _⟩ := hop5.at_ (by rw [HOL.out]; exact h0)
         rw [e] at e'
         cases e'
       have hol : Hid (∀ b', Ao = some b' → ∀ (j : Nat) u, ((s.op.take kk).map Value.string)[j]? = some u → (w5.alloc (.cells #[.string x.id] 9)).cell? (b'.add j) = some u) := fun b' e j u hj => by
        rw [List.getElem?_map] at hj
        cases hq : (s.op.take kk)[j]? with
        | none => rw [hq] at hj; cases hj
        | some z =>
         rw [hq] at hj
         cases hj
         obtain ⟨b2, e2, hb2, _, hc2⟩ := hop5.at_ (by have := (List.getElem?_eq_some_iff.1 hq).1; omega)
         rw [e] at e2
         cases e2
         have := hc2 j z hq
         rw [← this]
         rw [addr_off, Nat.zero_add]
         exact World.cell?_of_block (Below.heap_alloc _ _ _ hb2)
       go_wp2_with (at_builtin; refine wpList_append_grows _ rfl (.tmp 52) (.tmp 55) _ rfl _ ti _ 1 16 underlying93 TI.out.1 TI.out.2.1 TI.out.2.2.1 TI.out.2.2.2 rfl (by decide) Ao kk kk ((s.op.take kk).map Value.string) rfl hnone.out (by rw [List.length_map, HOL.out, Nat.mul_one]) hol.out ⟨w5.heap.size, 0, none⟩ 1 1 [.string x.id] rfl rfl (fun j u hj => by
         cases j with
         | zero => cases hj; exact cell_of_row _ _ _ _ _ (0, 0) (heap_alloc_new w5 _)
         | succ j => cases hj) (fun u hu => by rw [List.mem_singleton.1 hu]; rfl) (by omega) (by unfold maxLen; omega) (by omega) ?_; intro v6 w6 hown6 hg6)
       have hown : OwnS w6 (w5.alloc (.cells #[.string x.id] 9)).heap.size v6 (s.op.take kk ++ [x.id]) := by
        unfold OwnS OwnV
        rw [List.map_append, List.length_append, List.length_map, HOL.out]
        exact hown6
       have hx6 : Below w5.heap.size w5 w6 := (nwB w5 (.cells #[.string x.id] 9)).trans ((grown_belowN hg6).mono (by simp))
       obtain ⟨A6, c6', rfl, hc6, hop6⟩ := OpenAt.own (S := mb :: S') hown (fun g hg => by
        have h1 : (w5.alloc (.cells #[.string x.id] 9)).heap.size = w5.heap.size + 1 := by simp
        rw [h1]
        rcases List.mem_cons.1 hg with rfl | hg
        ·have := hsz5.out; have := hs3.out; omega
        ·have := (hlt5.out g hg).2; omega)
       have hlen6 : (s.op.take kk ++ [x.id]).length = kk + 1 := by rw [List.length_append, HOL.out]; rfl
       have hM7 := ownsMap_off (S := []) hM6 (Off.of_below hx6) (by simp)
       have hI7 := hide ((HV.out).stable (k + 1) S' w5 w6 hI5'.out (fun g hg => hx6.block g (hlt5.out g hg).2) (hx6.mono (by have := hoff.out.size; have := hs3.out; have := hsz5.out; omega)))
       have hoff7 := hoff5.next hx6
       clear hown6 hown hg6
       go_roundw
       case rel => exact ⟨k + 1, _, _, A6, c6', S', by omega, by go_num, by first | rfl | (rw [hlen6]), hc6, HW3, hop6, hM7, hI7, hoff7, hS5'⟩
       case measure => simp [intOf]; omega
      ·have kb : (x.kind == 1) = false := beq_eq_false_iff_ne.2 hkd
       have HWT2 := HWT.out
       rw [if_neg hkd] at HWT2
       have HW3 := hide HWT2
       clear hkd HWT HWT2 hrow5
       go_wp2
       go_roundw
       case rel => exact ⟨k + 1, _, _, Ao, kk, S', by omega, by go_num, by rw [HOL.out], by rw [HOL.out]; exact Nat.le_refl _, HW3, hop5, hM6, hI5', hoff5, hS5'⟩
       case measure => simp [intOf]; omega
     ·have hpb : x.parent.toList.isEmpty = false := hpe.trans (decide_eq_false hp)
      clear hpe
      obtain ⟨ib, hib⟩ : ∃ b, Dg.inB s.op x.parent = b := ⟨_, rfl⟩
      go_wp2_with fail
      refine (sindex_s Ao s.op.length co s.op x.parent _ rfl (by have := hop_.out; omega) hop3.strs).mono ?_
      rintro e w4 ⟨rfl, hw4⟩
      rw [hw4]
      clear hw4
      cases ib with
      | false =>
       have hR0 := hide (show false = R by rw [← HR.out]; exact (hbad.out (step_none3 s x hpb'.out hsb'.out (by unfold Dg.kOf; rw [if_neg hp, hib]; rfl))).symm)
       rw [idx_no hib]
       clear hib hp hM3
       go_wp2
       go_ret
       exact ⟨ret_bool hR0.out, by rw [← hR0.out]; exact hfin.out _ HO3.out⟩
      | true =>
       rw [idx_yes hib]
       have hko := hide (show Dg.kOf s.op x.parent = some (s.op.findIdx (fun d => decide (d = x.parent)) + 1) by unfold Dg.kOf; rw [if_neg hp, if_pos hib])
       have hfi : s.op.findIdx (fun d => decide (d = x.parent)) < s.op.length := by
        refine List.findIdx_lt_length_of_exists ?_
        exact ⟨x.parent, (Dg.inB_iff _ _).1 hib, decide_eq_true rfl⟩
       generalize s.op.findIdx (fun d => decide (d = x.parent)) = fi at *
       clear hib hp
       have hop0 := hop_.out
       obtain ⟨kk, hkk⟩ : ∃ kk, fi + 1 = kk := ⟨_, rfl⟩
       obtain ⟨hwf, hne, hk1, hk1I, hk1c, hk0'⟩ := kk_facts hkk hfi hop0 (Nat.le_trans hk hn) hco
       rw [hkk] at hko
       clear hkk hfi
       have hwl := Dg.walk_len (by omega) hwt.out
       have ho_len : (s.op.take kk).length = kk := by rw [List.length_take]; omega
       have hst' := step_some s x hpb'.out hsb'.out _ hko.out
       have hwt' := hgood.out _ _ hst'
       have hbw3 : Below w.heap.size wr w3 := HO3.out.below hoff.out.size (fun g hg => by rw [List.mem_singleton.1 hg]; omega)
       have hIv3 := (HV.out).stable k S wr w3 hiv.out (fun g hg => HO3.out.block g ((HV.out).lt k S wr hiv.out g hg).2 (fun hm => hmS.out (by rw [← List.mem_singleton.1 hm]; exact hg))) hbw3
       have hnS : Hid (wr.heap.size ∉ S) := fun hm => by have := ((HV.out).lt k S wr hiv.out _ hm).2; omega
       have hopk := hop3.take kk
       have hcall := (HV.out).call k S w3 (s.op.take kk) Ao kk vs _ hkl hIv3 hwt' hwl hopk.strs (Nat.le_of_eq ho_len) (Nat.le_trans hoff.out.size hs3.out)
       rw [ho_len] at hcall
       have HC := hide hcall; have HWT := hide hwt'; have HOL := hide ho_len; have HKO := hide hko.out
       clear hcall hwt' hst' hIv3 hwl ho_len hko
       have en := (HV.out).enters
       go_wp2_with fail
       clear en
       refine HC.out.mono ?_
       rintro e w5 ⟨rfl, S', hI5, ho5, hS5⟩
       have hrow5 := ho5.row hrow3 hnS.out
       have hM5 := ownsMap_off hM3 ho5 hmS.out
       have hoff5 : Off (mb :: S0) W0 w5 := (hofr.trans HO3.out (fun g hg => Or.inl (by rw [List.mem_singleton.1 hg]; exact List.mem_cons_self ..))).trans ho5 (fun g hg => (hSr.out g hg).imp (fun h => List.mem_cons_of_mem _ h) id)
       have hS5' : Hid (∀ g ∈ S', g ∈ S0 ∨ W0.heap.size ≤ g) := fun g hg => by
        rcases hS5 g hg with h1 | h1
        ·exact hSr.out g h1
        ·exact Or.inr (by have := hofr.size; have := HO3.out.size; omega)
       have hop5 : OpenAt (mb :: S') w5 Ao (s.op.take kk) := hopk.off (ho5.wide (fun g hg => List.mem_cons_of_mem _ hg)) (fun g hg => by
        rcases List.mem_cons.1 hg with rfl | hg
        ·exact Or.inl (List.mem_cons_self ..)
        ·exact (hS5 g hg).imp (fun h => List.mem_cons_of_mem _ h) id)
       have hsz5 := hide ho5.size
       have hI5' := hide hI5
       have hlt5 := hide ((HV.out).lt _ _ _ hI5)
       clear c0 c1 c2 c3 c4 c5 c6 hrow3 hM3 ho5 hS5 hop3 hopk hI5 HC
       obtain ⟨c0, c1, c2, c3, c4, c5, c6⟩ := iCells hrow5
       have hM6 : w5.ownsMap Tryz.prog 9 rBo mb (k + 1) (seenS (x.id :: s.seen)) := hM5
       clear hM5
       by_cases hkd : x.kind = 1
       ·have kb : (x.kind == 1) = true := beq_iff_eq.2 hkd
        have HWT2 := HWT.out
        rw [if_pos hkd] at HWT2
        have HW3 := hide HWT2
        clear hkd HWT HWT2 hrow5
        obtain ⟨ti, ti1, ti2, ti3, ti4⟩ := info_parts strInfo
        have TI := hide (And.intro ti1 (And.intro ti2 (And.intro ti3 ti4)))
        clear ti1 ti2 ti3 ti4
        have hnone : Hid (Ao = none → kk = 0 ∧ kk = 0) := fun e => by
         rcases Nat.eq_zero_or_pos kk with h0 | h0
         ·exact ⟨h0, h0⟩
         ·obtain ⟨b', e', _⟩ := hop5.at_ (by rw [HOL.out]; exact h0)
          rw [e] at e'
          cases e'
        have hol : Hid (∀ b', Ao = some b' → ∀ (j : Nat) u, ((s.op.take kk).map Value.string)[j]? = some u → (w5.alloc (.cells #[.string x.id] 9)).cell? (b'.add j) = some u) := fun b' e j u hj => by
         rw [List.getElem?_map] at hj
         cases hq : (s.op.take kk)[j]? with
         | none => rw [hq] at hj; cases hj
         | some z =>
          rw [hq] at hj
          cases hj
          obtain ⟨b2, e2, hb2, _, hc2⟩ := hop5.at_ (by have := (List.getElem?_eq_some_iff.1 hq).1; omega)
          rw [e] at e2
          cases e2
          have := hc2 j z hq
          rw [← this]
          rw [addr_off, Nat.zero_add]
          exact World.cell?_of_block (Below.heap_alloc _ _ _ hb2)
        go_wp2_with (at_builtin; refine wpList_append_grows _ rfl (.tmp 52) (.tmp 55) _ rfl _ ti _ 1 16 underlying93 TI.out.1 TI.out.2.1 TI.out.2.2.1 TI.out.2.2.2 rfl (by decide) Ao kk kk ((s.op.take kk).map Value.string) rfl hnone.out (by rw [List.length_map, HOL.out, Nat.mul_one]) hol.out ⟨w5.heap.size, 0, none⟩ 1 1 [.string x.id] rfl rfl (fun j u hj => by
          cases j with
          | zero => cases hj; exact cell_of_row _ _ _ _ _ (0, 0) (heap_alloc_new w5 _)
          | succ j => cases hj) (fun u hu => by rw [List.mem_singleton.1 hu]; rfl) (by omega) (by unfold maxLen; omega) (by omega) ?_; intro v6 w6 hown6 hg6)
        have hown : OwnS w6 (w5.alloc (.cells #[.string x.id] 9)).heap.size v6 (s.op.take kk ++ [x.id]) := by
         unfold OwnS OwnV
         rw [List.map_append, List.length_append, List.length_map, HOL.out]
         exact hown6
        have hx6 : Below w5.heap.size w5 w6 := (nwB w5 (.cells #[.string x.id] 9)).trans ((grown_belowN hg6).mono (by simp))
        obtain ⟨A6, c6', rfl, hc6, hop6⟩ := OpenAt.own (S := mb :: S') hown (fun g hg => by
         have h1 : (w5.alloc (.cells #[.string x.id] 9)).heap.size = w5.heap.size + 1 := by simp
         rw [h1]
         rcases List.mem_cons.1 hg with rfl | hg
         ·have := hsz5.out; have := hs3.out; omega
         ·have := (hlt5.out g hg).2; omega)
        have hlen6 : (s.op.take kk ++ [x.id]).length = kk + 1 := by rw [List.length_append, HOL.out]; rfl
        have hM7 := ownsMap_off (S := []) hM6 (Off.of_below hx6) (by simp)
        have hI7 := hide ((HV.out).stable (k + 1) S' w5 w6 hI5'.out (fun g hg => hx6.block g (hlt5.out g hg).2) (hx6.mono (by have := hoff.out.size; have := hs3.out; have := hsz5.out; omega)))
        have hoff7 := hoff5.next hx6
        clear hown6 hown hg6
        go_roundw
        case rel => exact ⟨k + 1, _, _, A6, c6', S', by omega, by go_num, by first | rfl | (rw [hlen6]), hc6, HW3, hop6, hM7, hI7, hoff7, hS5'⟩
        case measure => simp [intOf]; omega
       ·have kb : (x.kind == 1) = false := beq_eq_false_iff_ne.2 hkd
        have HWT2 := HWT.out
        rw [if_neg hkd] at HWT2
        have HW3 := hide HWT2
        clear hkd HWT HWT2 hrow5
        go_wp2
        go_roundw
        case rel => exact ⟨k + 1, _, _, Ao, kk, S', by omega, by go_num, by rw [HOL.out], by rw [HOL.out]; exact Nat.le_refl _, HW3, hop5, hM6, hI5', hoff5, hS5'⟩
        case measure => simp [intOf]; omega
  ·obtain rfl : k = n := by omega
   have hrow := hofr.row hc0 (fun hm => by
    rcases List.mem_cons.1 hm with e | e
    ·omega
    ·have := hS0.out _ e; omega)
   have hcc := iCells0 hrow
   have hRR := hide (show decide ((k : Int) ≤ 2000) = R by
    rw [← HR.out]
    unfold Dg.validC
    rw [HL.out, hwt.out, Option.isSome_some, Bool.true_and, Bool.eq_iff_iff, decide_eq_true_eq, decide_eq_true_eq]
    omega)
   clear hrow hop hMr
   go_wp2
   go_ret
   exact ⟨ret_bool hRR.out, k, S, fun _ => rfl, hiv.out, hoff.out, fun g hg => (hSr.out g hg).imp id (fun h => by have := HB2.out; omega)⟩
theorem wp_ag {w : World} {o : Oper} {a : Act} {K : Act → World → Prop} {Q : Exit → Act → World → Prop} (sl x : Operand)
  (ho : o.op = .call { callee := .builtin .append, args := #[sl, x], argTypes := #[93, 93] })
  (B : Nat) (v : Value) (l l' : List ByteArray) (hs : a.eval sl = v) (hO : OwnS w B v l) (ad : Addr) (n cap : Nat) (hx : a.eval x = .slice (some ad) n cap) (hn : l'.length = n)
  (hsrc : ∀ (j : Nat) s, l'[j]? = some s → w.cell? (ad.add j) = some (.string s)) (hlen : l.length + n ≤ 1099511627776) (hB : B ≤ w.heap.size)
  (h : ∀ v' w', OwnS w' B v' (l ++ l') → w.grownBy w' v.ownBlock → (v'.ownBlock = v.ownBlock ∨ v'.ownBlock = some w.heap.size) → K (a.put o.dst v') w') : o.wp Tryz.prog a w K Q := by
 subst hn
 obtain ⟨i, h1, h2, h3, h4⟩ := info_parts strInfo
 have hown : w.ownsRow B 9 1 v l.length (l.map Value.string) := by
  have h9 := hO
  unfold OwnS OwnV at h9
  rw [List.length_map] at h9
  exact h9
 obtain ⟨v', w', hrun, h5, h6, _, h7⟩ := run_append_own_at (P := Tryz.prog) w B 93 o.type 9 i (.string ⟨#[]⟩) 1 16 underlying93 h1 h2 h3 h4 rfl (by omega) v l.length (l.map Value.string) hown ad l'.length cap (l'.map Value.string) (by rw [Nat.mul_one, List.length_map]) (fun j u hj => by
  rw [List.getElem?_map] at hj
  cases hq : l'[j]? with
  | none => rw [hq] at hj; cases hj
  | some z => rw [hq] at hj; cases hj; exact hsrc j z hq) (fun u hu => by obtain ⟨s, _, rfl⟩ := List.mem_map.1 hu; rfl) (by unfold maxLen; omega) (by omega) hB
 have h5' : OwnS w' B v' (l ++ l') := by
  unfold OwnS OwnV
  rw [List.map_append, List.length_append, List.length_map, List.length_map]
  exact h5
 unfold Oper.wp execOp
 simp only [ho, resolve, invoke, builtin, Sem.run_bind, Sem.run_pure, Result.andThen_ok, List.map_toArray, List.map_cons, List.map_nil, hs, hx, hrun]
 exact h v' w' h5' h6 h7
theorem OwnV.same {w w' : World} {B : Nat} {e : TypeId} {v : Value} {xs : List Value} (h : OwnV w B e v xs) (hg : ∀ g, v.ownBlock = some g → w'.heap[g]? = w.heap[g]?) : OwnV w' B e v xs := by
 obtain ⟨h1, h2⟩ := h
 refine ⟨h1, ?_⟩
 rcases h2 with h2 | ⟨g, cap, cur, hv, hg', hh, r⟩
 ·exact Or.inl h2
 ·exact Or.inr ⟨g, cap, cur, hv, hg', (hg g (by rw [hv]; rfl)).trans hh, r⟩
theorem Its.same {w w' : World} {B : Nat} {A : Option Addr} {l : List Dg.It} (h : Its w B A l) (hg : ∀ g, g < B → w'.heap[g]? = w.heap[g]?) : Its w' B A l :=
 ⟨fun h0 => by
  obtain ⟨b, off, e, hlt, hc⟩ := h.at_ h0
  exact ⟨b, off, e, hlt, fun j x hj i u hu => (World.cell?_of_block (a := ⟨b, off + j * 7 + i, none⟩) (hg b hlt)).trans (hc j x hj i u hu)⟩⟩
structure OutAt (bo n0 : Nat) (W : World) (v : Value) (l : List ByteArray) : Prop where
 row : W.heap[bo]? = some (.cells #[v] 93 (0, 0))
 own : OwnS W n0 v l
def outS (bo : Nat) (v : Value) : List Nat := bo :: v.ownBlock.toList
theorem outS_own {bo : Nat} {v : Value} {g : Nat} (h : v.ownBlock = some g) : g ∈ outS bo v := by unfold outS; rw [h]; simp
theorem mem_outS {bo : Nat} {v : Value} {g : Nat} (h : g ∈ outS bo v) : g = bo ∨ v.ownBlock = some g := by
 unfold outS at h
 rcases List.mem_cons.1 h with h | h
 ·exact Or.inl h
 ·cases hv : v.ownBlock with
  | none => rw [hv] at h; cases h
  | some g' => rw [hv] at h; simp at h; exact Or.inr (by rw [h])
theorem OutAt.same {bo n0 : Nat} {W W' : World} {v : Value} {l : List ByteArray} (h : OutAt bo n0 W v l) (hg : ∀ g ∈ outS bo v, W'.heap[g]? = W.heap[g]?) : OutAt bo n0 W' v l :=
 ⟨(hg bo (List.mem_cons_self ..)).trans h.row, OwnV.same h.own fun g hv => hg g (outS_own hv)⟩
def OutStep (bo n0 : Nat) (W W' : World) (v : Value) (l' : List ByteArray) : Prop := ∃ v', OutAt bo n0 W' v' l' ∧ Off (outS bo v) W W' ∧ ∀ g, v'.ownBlock = some g → v.ownBlock = some g ∨ W.heap.size ≤ g
theorem OutStep.none {bo n0 : Nat} {W W' : World} {v : Value} {l : List ByteArray} (h : OutAt bo n0 W v l) (hb : Below W.heap.size W W') : OutStep bo n0 W W' v l :=
 ⟨v, h.same (fun g hg => hb.block g (by
  rcases mem_outS hg with rfl | e
  ·exact lt_of_block h.row
  ·exact (OwnV.lt h.own e).2)), Off.of_below hb, fun g hg => Or.inl hg⟩
theorem out_visit {l : List Dg.It} {F : Nat} {lb : Array Value} {B0 n0 bo : Nat} (hb0 : B0 ≤ bo) (hbn : bo < n0) (Low : World → Prop) (hLow : ∀ W W', Low W → (∀ g, g < n0 → g ≠ bo → W'.heap[g]? = W.heap[g]?) → Low W') (f : List (List ByteArray) → List ByteArray)
  (en : ∀ args w, (callFunc F args).run Tryz.prog w = .ok (.enter F args) w)
  (hc : ∀ (k : Nat) (W : World) (v : Value) (o : List ByteArray) (A : Option Addr) (c : Nat) (vs : List (List ByteArray)) (s : Dg.Wk), k < l.length → Low W → OutAt bo n0 W v (f vs) → n0 ≤ W.heap.size → Dg.walkTo l (k + 1) = some (vs ++ [o], s) → vs.length = k → Strs W W.heap.size A o → o.length ≤ c →
   Calls Tryz.prog F (#[.int .i64 (k : Int), .slice A o.length c] ++ lb) W fun e W' => e = .returned (.tuple #[]) ∧ OutStep bo n0 W W' v (f (vs ++ [o]))) :
  Visit l F lb B0 n0 (fun k S W => ∃ v vs s, S = outS bo v ∧ OutAt bo n0 W v (f vs) ∧ Dg.walkTo l k = some (vs, s) ∧ Low W) where
 enters := en
 stable := fun k S W W' h hS hb => by
  obtain ⟨v, vs, s, rfl, h1, h2, h3⟩ := h
  exact ⟨v, vs, s, rfl, h1.same hS, h2, hLow W W' h3 fun g hg _ => hb.block g hg⟩
 lt := fun k S W h g hg => by
  obtain ⟨v, vs, s, rfl, h1, h2, h3⟩ := h
  rcases mem_outS hg with rfl | e
  ·exact ⟨hb0, lt_of_block h1.row⟩
  ·have := OwnV.lt h1.own e
   omega
 call := fun k S W o A c vs s hk h hw hvl hS hoc hn => by
  obtain ⟨v, vs0, s0, rfl, h1, h2, h3⟩ := h
  obtain ⟨vs1, s1, o1, e1, _, e2⟩ := Dg.walk_step hk hw
  rw [h2] at e1
  cases e1
  obtain ⟨rfl, e3⟩ := List.append_inj' e2 rfl
  refine (hc k W v o A c vs s hk h3 h1 hn hw hvl hS hoc).mono ?_
  rintro e W' ⟨rfl, v', h4, h5, h6⟩
  refine ⟨rfl, outS bo v', ⟨v', vs ++ [o], s, rfl, h4, hw, hLow W W' h3 fun g hg hgb => h5.block g (by omega) fun hm => ?_⟩, h5, fun g hg => ?_⟩
  ·rcases mem_outS hm with e | e
   ·exact hgb e
   ·have := (OwnV.lt h1.own e).1
    omega
  ·rcases mem_outS hg with rfl | e
   ·exact Or.inl (List.mem_cons_self ..)
   ·exact (h6 g e).imp outS_own id
section
structure Lay (α : Type) where
 C : α → List Value
 k : Nat
 len : ∀ x, (C x).length = k
 one : ∀ x, ∀ u ∈ C x, u.oneCell' = true
variable {α : Type}
def Lay.flat (L : Lay α) (l : List α) : List Value := l.flatMap L.C
theorem Lay.flat_nil (L : Lay α) : L.flat [] = [] := rfl
theorem Lay.flat_cons (L : Lay α) (x : α) (l : List α) : L.flat (x :: l) = L.C x ++ L.flat l := List.flatMap_cons
theorem Lay.flat_append (L : Lay α) (a b : List α) : L.flat (a ++ b) = L.flat a ++ L.flat b := List.flatMap_append
theorem Lay.flat_len (L : Lay α) : ∀ l : List α, (L.flat l).length = l.length * L.k
 | [] => by rw [L.flat_nil]; simp
 | x :: l => by rw [L.flat_cons, List.length_append, L.len, L.flat_len l, List.length_cons, Nat.add_mul, Nat.one_mul, Nat.add_comm]
theorem Lay.flat_one (L : Lay α) (l : List α) : ∀ u ∈ L.flat l, u.oneCell' = true := fun u hu => by
 obtain ⟨x, _, hx⟩ := List.mem_flatMap.1 hu
 exact L.one x u hx
theorem Lay.flat_split (L : Lay α) (l : List α) (n : Nat) (h : n ≤ l.length) : L.flat l = L.flat (l.take n) ++ L.flat (l.drop n) ∧ (L.flat (l.take n)).length = n * L.k := by
 refine ⟨by rw [← L.flat_append, List.take_append_drop], ?_⟩
 rw [L.flat_len, List.length_take, Nat.min_eq_left h]
theorem Lay.flat_take (L : Lay α) (l : List α) (n : Nat) : L.flat (l.take n) = (L.flat l).take (n * L.k) := by
 rcases Nat.le_total n l.length with h | h
 ·obtain ⟨e1, e2⟩ := L.flat_split l n h
  rw [e1, ← e2, List.take_left]
 ·rw [List.take_of_length_le h, List.take_of_length_le (by rw [L.flat_len]; exact Nat.mul_le_mul_right _ h)]
theorem Lay.flat_drop (L : Lay α) (l : List α) (n : Nat) : L.flat (l.drop n) = (L.flat l).drop (n * L.k) := by
 rcases Nat.le_total n l.length with h | h
 ·obtain ⟨e1, e2⟩ := L.flat_split l n h
  rw [e1, ← e2, List.drop_left]
 ·rw [List.drop_of_length_le h, L.flat_nil, List.drop_of_length_le (by rw [L.flat_len]; exact Nat.mul_le_mul_right _ h)]
theorem Lay.flat_get (L : Lay α) : ∀ (l : List α) (j i : Nat) (x : α), l[j]? = some x → i < L.k → (L.flat l)[j * L.k + i]? = (L.C x)[i]?
 | [], j, i, c, h, _ => by simp at h
 | a :: cs, 0, i, c, h, hi => by
  obtain rfl : a = c := by simpa using h
  rw [L.flat_cons, Nat.zero_mul, Nat.zero_add, List.getElem?_append_left (by rw [L.len]; exact hi)]
 | a :: cs, j + 1, i, c, h, hi => by
  have e : (j + 1) * L.k + i = L.k + (j * L.k + i) := by rw [Nat.add_mul, Nat.one_mul]; omega
  rw [L.flat_cons, List.getElem?_append_right (by rw [L.len, e]; omega), L.len, e, Nat.add_sub_cancel_left]
  exact L.flat_get cs j i c (by simpa using h) hi
def Own1 (L : Lay α) (e : TypeId) (w : World) (B : Nat) (v : Value) (l : List α) : Prop := w.ownsRow B e L.k v l.length (L.flat l)
structure Row1 (L : Lay α) (w : World) (B : Nat) (A : Option Addr) (l : List α) : Prop where
 at_ : 0 < l.length → ∃ b off, A = some ⟨b, off, none⟩ ∧ b < B ∧ ∀ (j : Nat) u, (L.flat l)[j]? = some u → w.cell? ⟨b, off + j, none⟩ = some u
theorem Row1.nil (L : Lay α) (w : World) (B : Nat) (A : Option Addr) : Row1 L w B A [] := ⟨fun h => by simp at h⟩
theorem Row1.below {L : Lay α} {w w' : World} {B : Nat} {A : Option Addr} {l : List α} (h : Row1 L w B A l) (hb : Below B w w') : Row1 L w' B A l :=
 ⟨fun h0 => by
  obtain ⟨b, off, e, hlt, hc⟩ := h.at_ h0
  exact ⟨b, off, e, hlt, fun j u hu => (hb.cell (p := ⟨b, off + j, none⟩) hlt).trans (hc j u hu)⟩⟩
theorem Row1.more {L : Lay α} {w : World} {B B' : Nat} {A : Option Addr} {l : List α} (h : Row1 L w B A l) (hB : B ≤ B') : Row1 L w B' A l :=
 ⟨fun h0 => by
  obtain ⟨b, off, e, hlt, hc⟩ := h.at_ h0
  exact ⟨b, off, e, by omega, hc⟩⟩
theorem Row1.keep {L : Lay α} {w w' : World} {A : Option Addr} {l : List α} (h : Row1 L w w.heap.size A l) (hb : Below w.heap.size w w') : Row1 L w' w'.heap.size A l := (h.below hb).more hb.size
theorem Row1.get {L : Lay α} {w : World} {B : Nat} {A : Option Addr} {l : List α} (h : Row1 L w B A l) {k : Nat} (hk : k < l.length) : ∃ b off, A = some ⟨b, off, none⟩ ∧ b < B ∧ ∀ (i : Nat) (u : Value), i < L.k → (L.C l[k])[i]? = some u → w.cell? ⟨b, off + k * L.k + i, none⟩ = some u := by
 obtain ⟨b, off, e, hb, hc⟩ := h.at_ (by omega)
 refine ⟨b, off, e, hb, fun i u hi hu => ?_⟩
 have := hc (k * L.k + i) u (by rw [L.flat_get l k i l[k] (List.getElem?_eq_getElem hk) hi]; exact hu)
 rw [Nat.add_assoc]
 exact this
theorem Row1.take {L : Lay α} {w : World} {B : Nat} {A : Option Addr} {l : List α} (h : Row1 L w B A l) (n : Nat) : Row1 L w B A (l.take n) :=
 ⟨fun h0 => by
  rw [List.length_take] at h0
  obtain ⟨b, off, e, hb, hc⟩ := h.at_ (by omega)
  refine ⟨b, off, e, hb, fun j u hu => hc j u ?_⟩
  rw [L.flat_take, List.getElem?_take] at hu
  split at hu
  ·exact hu
  ·cases hu⟩
theorem Row1.drop {L : Lay α} {w : World} {B b off : Nat} {l : List α} (h : Row1 L w B (some ⟨b, off, none⟩) l) (n : Nat) : Row1 L w B (some ⟨b, off + n * L.k, none⟩) (l.drop n) :=
 ⟨fun h0 => by
  rw [List.length_drop] at h0
  obtain ⟨b', off', e, hb, hc⟩ := h.at_ (by omega)
  injection e with e
  injection e with e1 e2 _
  subst e1 e2
  refine ⟨b, _, rfl, hb, fun j u hu => ?_⟩
  rw [L.flat_drop, List.getElem?_drop] at hu
  rw [Nat.add_assoc]
  exact hc _ u hu⟩
theorem Own1.nil (L : Lay α) (e : TypeId) (w : World) (B : Nat) : Own1 L e w B (.slice none 0 0) [] := World.ownsRow_nil w B _ _
theorem Own1.below {L : Lay α} {e : TypeId} {w w' : World} {B : Nat} {v : Value} {l : List α} (h : Own1 L e w B v l) (hb : Below w.heap.size w w') : Own1 L e w' B v l := own_below h hb
theorem Own1.emptyLit (L : Lay α) (e : TypeId) (w : World) (B : Nat) (hB : B ≤ w.heap.size) : Own1 L e (w.alloc (.cells #[] e)) B (.slice (some ⟨w.heap.size, 0, none⟩) 0 0) [] :=
 ⟨by rw [L.flat_nil]; simp, Or.inr ⟨_, 0, #[], rfl, hB, heap_alloc_new w _, Nat.le_refl _, Nat.zero_le _, by simp, by rw [L.flat_nil]; simp⟩⟩
theorem Own1.row {L : Lay α} {e : TypeId} {w : World} {B : Nat} {v : Value} {l : List α} (h : Own1 L e w B v l) : ∃ A c, v = .slice A l.length c ∧ Row1 L w w.heap.size A l ∧ l.length ≤ c := by
 rcases h.2 with ⟨rfl, h0⟩ | ⟨g, cap, cur, rfl, hB, hg, hc, _, hsz, hx⟩
 ·obtain rfl := List.length_eq_zero_iff.1 h0
  exact ⟨none, 0, rfl, Row1.nil _ _ _ _, Nat.le_refl _⟩
 ·refine ⟨_, cap, rfl, ⟨fun _ => ⟨g, 0, rfl, lt_of_block hg, fun j u hj => ?_⟩⟩, hc⟩
  rw [Nat.zero_add, cell_of_row _ _ _ _ _ (0, 0) hg, ← Array.getElem?_toList]
  rw [← hx, List.getElem?_take] at hj
  split at hj
  ·exact hj
  ·cases hj
theorem Own1.form {L : Lay α} {e : TypeId} {w : World} {B : Nat} {v : Value} {l : List α} (h : Own1 L e w B v l) (h0 : 0 < l.length) : ∃ g cap sp, v = .slice (some ⟨g, 0, none⟩) l.length cap ∧ B ≤ g ∧ g < w.heap.size ∧ w.heap[g]? = some (.cells (L.flat l ++ sp).toArray e (0, 0)) ∧ l.length ≤ cap ∧ cap ≤ maxLen ∧ sp.length = (cap - l.length) * L.k := by
 rcases h.2 with ⟨rfl, h1⟩ | ⟨g, cap, cur, rfl, hB, hg, hc, hm, hsz, hx⟩
 ·omega
 ·refine ⟨g, cap, cur.toList.drop (l.length * L.k), rfl, hB, lt_of_block hg, ?_, hc, hm, ?_⟩
  ·rw [hg, ← hx, List.take_append_drop]
  ·rw [List.length_drop, Array.length_toList, hsz, Nat.sub_mul]
theorem Own1.mk {L : Lay α} {e : TypeId} {w : World} {B g cap : Nat} {l : List α} {sp : List Value} (hB : B ≤ g) (hg : w.heap[g]? = some (.cells (L.flat l ++ sp).toArray e (0, 0))) (hm : cap ≤ maxLen) (hc : l.length ≤ cap) (hs : sp.length = (cap - l.length) * L.k) : Own1 L e w B (.slice (some ⟨g, 0, none⟩) l.length cap) l := by
 refine ⟨L.flat_len l, Or.inr ⟨g, cap, _, rfl, hB, hg, hc, hm, ?_, ?_⟩⟩
 ·rw [List.size_toArray, List.length_append, L.flat_len, hs, ← Nat.add_mul]
  congr 1
  omega
 ·show ((L.flat l ++ sp).take (l.length * L.k)) = L.flat l
  rw [← L.flat_len l, List.take_left]
theorem run_copy_any {P : Program} (w : World) (dT sT ty elem : TypeId) (g dLen dCap : Nat) (A : Option Addr) (sLen sCap : Nat) (X M D : List Value) (t : TypeId) (cs : List Value) (n size : Nat)
  (hu : P.underlying dT = some (.slice elem)) (hs : (P.info? elem).map (·.size) = some size)
  (hg : w.heap[g]? = some (.cells (X ++ (M ++ D)).toArray t (0, 0))) (hn : n = Nat.min sLen dLen) (hcs : cs.length = n * size) (hM : M.length = cs.length)
  (hsrc : ∃ a, A = some a ∧ ∀ j v, cs[j]? = some v → w.cell? (a.add j) = some v) (h1 : ∀ v ∈ cs, v.oneCell' = true) :
  (Builtin.copy_ #[dT, sT] ty #[.slice (some ⟨g, X.length, none⟩) dLen dCap, .slice A sLen sCap]).run P w =
   .ok (goInt n) (w.setRow g (X ++ (cs ++ D)).toArray) := by
 obtain ⟨a, rfl, hsrc⟩ := hsrc
 have hl := run_loadCells_list (P := P) w a cs hsrc
 have hst := run_storeCells_at P g X.length t cs 0 _ w hg (by simp only [List.size_toArray, List.length_append]; omega) h1
 have e : (List.take (X.length + 0) (X ++ (M ++ D)).toArray.toList ++ cs ++ List.drop (X.length + 0 + cs.length) (X ++ (M ++ D)).toArray.toList).toArray = (X ++ (cs ++ D)).toArray := by
  congr 1
  show List.take (X.length + 0) (X ++ (M ++ D)) ++ cs ++ List.drop (X.length + 0 + cs.length) (X ++ (M ++ D)) = _
  rw [Nat.add_zero, List.take_left, ← hM, ← List.drop_drop, List.drop_left, List.drop_left, List.append_assoc]
 rw [e] at hst
 cases hq : P.info? elem with
 | none => rw [hq] at hs; cases hs
 | some i =>
  have hi : i.size = size := by rw [hq] at hs; injection hs
  rw [hcs] at hl
  simp [Builtin.copy_, run_underlying hu, Builtin.lenOf, Builtin.firstCells, sizeOf, typeInfo, hq, hi, ← hn, hl, hst]
theorem run_clear_any {P : Program} (w : World) (t e ty : TypeId) (z : Value) (size : Nat) (ht : P.underlying t = some (.slice e)) (hv : ∀ w, (zeroValue e).run P w = .ok z w) (hz : z.cells.size = size) (h1 : ∀ u ∈ z.cells.toList, u.oneCell' = true) (hs : 0 < size) (g n c : Nat) (X M D : List Value) (T : TypeId)
  (hg : w.heap[g]? = some (.cells (X ++ (M ++ D)).toArray T (0, 0))) (hM : M.length = n * size) :
  ∃ zs, zs.length = n * size ∧ (Builtin.clear_ #[t] ty #[.slice (some ⟨g, X.length, none⟩) n c]).run P w = .ok (.tuple #[]) (w.setRow g (X ++ (zs ++ D)).toArray) := by
 have hlen : (Builtin.zeroCells z.cells n).toList.length = n * size := by rw [Array.length_toList, size_zeroCells, hz]
 have hone : ∀ v ∈ (Builtin.zeroCells z.cells n).toList, v.oneCell' = true := fun v hv' => by
  unfold Builtin.zeroCells at hv'
  rw [Array.toList_map, List.mem_map] at hv'
  obtain ⟨i, _, rfl⟩ := hv'
  have hlt : i % z.cells.size < z.cells.size := Nat.mod_lt _ (by omega)
  rw [getElem!_pos z.cells _ hlt]
  exact h1 _ (by rw [Array.mem_toList_iff]; exact Array.getElem_mem hlt)
 have hst := run_storeCells_at P g X.length T (Builtin.zeroCells z.cells n).toList 0 _ w hg (by simp only [List.size_toArray, List.length_append]; omega) hone
 have e9 : (List.take (X.length + 0) (X ++ (M ++ D)).toArray.toList ++ (Builtin.zeroCells z.cells n).toList ++ List.drop (X.length + 0 + (Builtin.zeroCells z.cells n).toList.length) (X ++ (M ++ D)).toArray.toList).toArray = (X ++ ((Builtin.zeroCells z.cells n).toList ++ D)).toArray := by
  congr 1
  show List.take (X.length + 0) (X ++ (M ++ D)) ++ (Builtin.zeroCells z.cells n).toList ++ List.drop (X.length + 0 + (Builtin.zeroCells z.cells n).toList.length) (X ++ (M ++ D)) = _
  rw [Nat.add_zero, List.take_left, hlen, ← hM, ← List.drop_drop, List.drop_left, List.drop_left, List.append_assoc]
 rw [e9] at hst
 refine ⟨(Builtin.zeroCells z.cells n).toList, hlen, ?_⟩
 cases n with
 | zero =>
  obtain rfl : M = [] := List.eq_nil_of_length_eq_zero (by simpa using hM)
  have e0 : (Builtin.zeroCells z.cells 0).toList = [] := List.eq_nil_of_length_eq_zero (by simpa using hlen)
  rw [e0]
  rw [setRow_self w g _ T (0, 0) (by simpa using hg)]
  simp [Builtin.clear_, run_underlying ht]
 | succ m => simp [Builtin.clear_, run_underlying ht, hv, hst]
end
namespace Dg
def likeI (x y : It) : Prop := x.id = y.id ∧ x.parent = y.parent ∧ x.kind = y.kind ∧ (properI x = true → properI y = true)
theorem step_like {s : Wk} {x y : It} (h : likeI x y) {q : List ByteArray × Wk} (hs : stepI s x = some q) : stepI s y = some q := by
 obtain ⟨h1, h2, h3, h4⟩ := h
 unfold stepI at hs ⊢
 split at hs
 ·rename_i hp
  rw [if_pos ⟨h4 hp.1, by rw [← h1]; exact hp.2⟩, ← h2, ← h1, ← h3]
  exact hs
 ·cases hs
theorem walk_like (l m : List It) (hl : l.length = m.length) (h : ∀ k (h1 : k < l.length) (h2 : k < m.length), likeI l[k] m[k]) : ∀ k ≤ l.length, ∀ q, walkTo l k = some q → walkTo m k = some q
 | 0, _, q, hq => hq
 | k + 1, hk, q, hq => by
  have hk1 : k < l.length := by omega
  have hk2 : k < m.length := by omega
  rw [walkTo_succ _ _ hk1] at hq
  rw [walkTo_succ _ _ hk2]
  cases hw : walkTo l k with
  | none => rw [hw] at hq; cases hq
  | some p =>
   obtain ⟨vs, s⟩ := p
   rw [hw] at hq
   rw [walk_like l m hl h k (by omega) _ hw]
   simp only at hq ⊢
   cases hs : stepI s l[k] with
   | none => rw [hs] at hq; cases hq
   | some r => rw [hs] at hq; rw [step_like (h k hk1 hk2) hs]; exact hq
theorem valid_like {l m : List It} (hl : l.length = m.length) (h : ∀ k (h1 : k < l.length) (h2 : k < m.length), likeI l[k] m[k]) (hv : validC l = true) : validC m = true := by
 obtain ⟨s, hw, hn⟩ := valid_walk hv
 have := walk_like l m hl h l.length (Nat.le_refl _) _ hw
 unfold validC
 rw [← hl, this, decide_eq_true hn]
 rfl
theorem like_refl (x : It) : likeI x x := ⟨rfl, rfl, rfl, id⟩
theorem kOf_append {a r : List ByteArray} {p : ByteArray} {k : Nat} (h : kOf a p = some k) : kOf (a ++ r) p = some k ∧ (a ++ r).take k = a.take k := by
 unfold kOf at h ⊢
 split at h
 ·rename_i hp
  injection h with h
  subst h
  rw [if_pos hp]
  exact ⟨rfl, rfl⟩
 ·rename_i hp
  rw [if_neg hp]
  split at h
  ·rename_i hin
   injection h with h
   have hm := (inB_iff _ _).1 hin
   have hf : (a.findIdx fun d => decide (d = p)) < a.length := List.findIdx_lt_length_of_exists ⟨_, hm, decide_eq_true rfl⟩
   rw [if_pos ((inB_iff _ _).2 (List.mem_append_left _ hm))]
   have e : (a ++ r).findIdx (fun d => decide (d = p)) = a.findIdx fun d => decide (d = p) := by rw [List.findIdx_append, if_pos hf]
   rw [e, h]
   exact ⟨rfl, List.take_append_of_le_length (by omega)⟩
  ·cases h
end Dg
namespace Dg
def kids (l : List It) (p : ByteArray) : List ByteArray := (l.filter fun x => decide (x.parent = p)).map It.id
theorem kids_append (a b : List It) (p : ByteArray) : kids (a ++ b) p = kids a p ++ kids b p := by unfold kids; rw [List.filter_append, List.map_append]
theorem kids_cons_yes {x : It} (l : List It) {p : ByteArray} (h : x.parent = p) : kids (x :: l) p = x.id :: kids l p := by unfold kids; rw [List.filter_cons_of_pos (by simpa using h)]; rfl
theorem kids_cons_no {x : It} (l : List It) {p : ByteArray} (h : x.parent ≠ p) : kids (x :: l) p = kids l p := by unfold kids; rw [List.filter_cons_of_neg (by simpa using h)]
theorem kids_none {l : List It} {p : ByteArray} (h : ∀ x ∈ l, x.parent ≠ p) : kids l p = [] := by
 unfold kids
 rw [List.filter_eq_nil_iff.2 fun x hx => by simpa using h x hx]; rfl
theorem kOf_some {op : List ByteArray} {p : ByteArray} {k : Nat} (h : kOf op p = some k) : (p = nil8 ∧ k = 0) ∨ (p ≠ nil8 ∧ ∃ i, ∃ hi : i < op.length, op[i] = p ∧ k = i + 1) := by
 unfold kOf at h
 split at h
 ·rename_i e
  injection h with h
  exact Or.inl ⟨e, h.symm⟩
 ·rename_i e
  split at h
  ·rename_i hin
   injection h with h
   refine Or.inr ⟨e, op.findIdx (fun d => decide (d = p)), ?_, ?_, h.symm⟩
   ·rw [List.findIdx_lt_length]
    exact ⟨p, (inB_iff _ _).1 hin, decide_eq_true rfl⟩
   ·have hlt : op.findIdx (fun d => decide (d = p)) < op.length := by
     rw [List.findIdx_lt_length]
     exact ⟨p, (inB_iff _ _).1 hin, decide_eq_true rfl⟩
    exact of_decide_eq_true (List.findIdx_getElem (w := hlt))
  ·cases h
theorem nd_inj {l : List ByteArray} (hn : l.Nodup) {i j : Nat} (hi : i < l.length) (hj : j < l.length) (e : l[i] = l[j]) : i = j := by
 rcases Nat.lt_trichotomy i j with h | h | h
 ·exact absurd e (List.pairwise_iff_getElem.1 hn i j hi hj h)
 ·exact h
 ·exact absurd e.symm (List.pairwise_iff_getElem.1 hn j i hj hi h)
end Dg
namespace Dg
def goW : Wk → List It → Option Wk
 | s, [] => some s
 | s, x :: l => match stepI s x with
  | none => none
  | some (_, s') => goW s' l
theorem goW_append : ∀ (a b : List It) (s : Wk), goW s (a ++ b) = match goW s a with | none => none | some t => goW t b
 | [], _, _ => rfl
 | x :: a, b, s => by
  rw [List.cons_append, goW, goW]
  cases stepI s x with
  | none => rfl
  | some q => exact goW_append a b q.2
theorem goW_split {a b : List It} {s t : Wk} (h : goW s (a ++ b) = some t) : ∃ u, goW s a = some u ∧ goW u b = some t := by
 rw [goW_append] at h
 cases ha : goW s a with
 | none => rw [ha] at h; cases h
 | some u => rw [ha] at h; exact ⟨u, rfl, h⟩
theorem goW_join {a b : List It} {s u t : Wk} (h1 : goW s a = some u) (h2 : goW u b = some t) : goW s (a ++ b) = some t := by
 rw [goW_append, h1]; exact h2
theorem goW_cons {x : It} {l : List It} {s t : Wk} (h : goW s (x :: l) = some t) : ∃ o s', stepI s x = some (o, s') ∧ goW s' l = some t := by
 rw [goW] at h
 cases hs : stepI s x with
 | none => rw [hs] at h; cases h
 | some q => rw [hs] at h; exact ⟨q.1, q.2, rfl, h⟩
def wk0 : Wk := ⟨[], []⟩
theorem walk_go (l : List It) : ∀ k, k ≤ l.length → (walkTo l k).map (·.2) = goW wk0 (l.take k)
 | 0, _ => rfl
 | k + 1, hk => by
  have hk' : k < l.length := by omega
  rw [walkTo_succ l k hk', List.take_succ_eq_append_getElem hk', goW_append, ← walk_go l k (by omega)]
  cases walkTo l k with
  | none => rfl
  | some q =>
   show (match stepI q.2 l[k] with | none => (none : Option (List (List ByteArray) × Wk)) | some (o, s') => some (q.1 ++ [o], s')).map (fun z : List (List ByteArray) × Wk => z.2) = goW q.2 [l[k]]
   rw [goW]
   cases stepI q.2 l[k] with
   | none => rfl
   | some r => rfl
theorem valid_go (l : List It) : validC l = true ↔ (∃ s, goW wk0 l = some s) ∧ l.length ≤ 2000 := by
 have h := walk_go l l.length (Nat.le_refl _)
 rw [List.take_length] at h
 unfold validC
 rw [Bool.and_eq_true, decide_eq_true_eq, ← h, Option.isSome_iff_exists]
 constructor
 ·rintro ⟨⟨a, ha⟩, h2⟩
  exact ⟨⟨a.2, by rw [ha]; rfl⟩, h2⟩
 ·rintro ⟨⟨s, hs⟩, h2⟩
  refine ⟨?_, h2⟩
  cases hw : walkTo l l.length with
  | none => rw [hw] at hs; cases hs
  | some q => exact ⟨q, rfl⟩
theorem goW_seen : ∀ {l : List It} {s t : Wk}, goW s l = some t → t.seen = (l.map It.id).reverse ++ s.seen
 | [], s, t, h => by cases h; rfl
 | x :: l, s, t, h => by
  obtain ⟨o, s', h1, h2⟩ := goW_cons h
  obtain ⟨_, _, _, _, _, h3, _⟩ := stepI_some h1
  rw [goW_seen h2, h3, List.map_cons, List.reverse_cons, List.append_assoc]; rfl
theorem goW_new : ∀ {l : List It} {s t : Wk}, goW s l = some t → (∀ x ∈ l, x.id ∉ s.seen) ∧ (l.map It.id).Nodup
 | [], s, t, h => ⟨by simp, List.nodup_nil⟩
 | x :: l, s, t, h => by
  obtain ⟨o, s', h1, h2⟩ := goW_cons h
  obtain ⟨_, hx, _, _, _, h3, _⟩ := stepI_some h1
  obtain ⟨i1, i2⟩ := goW_new h2
  refine ⟨fun y hy => ?_, ?_⟩
  ·rcases List.mem_cons.1 hy with rfl | hy
   ·exact hx
   ·have := i1 y hy
    rw [h3] at this
    exact fun h => this (List.mem_cons_of_mem _ h)
  ·rw [List.map_cons]
   refine List.nodup_cons.2 ⟨fun h => ?_, i2⟩
   obtain ⟨y, hy, e⟩ := List.mem_map.1 h
   have := i1 y hy
   rw [h3, e] at this
   exact this (List.mem_cons_self ..)
theorem goW_cong : ∀ {l : List It} {s s' t : Wk}, s'.op = s.op → (∀ x ∈ l, x.id ∈ s'.seen → x.id ∈ s.seen) → goW s l = some t → ∃ t', goW s' l = some t' ∧ t'.op = t.op
 | [], s, s', t, ho, _, h => by cases h; exact ⟨s', rfl, ho⟩
 | x :: l, s, s', t, ho, hs, h => by
  obtain ⟨o, s1, h1, h2⟩ := goW_cons h
  obtain ⟨hp, hx, k, hk, h4, h5, h6⟩ := stepI_some h1
  have hx' : x.id ∉ s'.seen := fun h => hx (hs x (List.mem_cons_self ..) h)
  have hstep : stepI s' x = some (s'.op.take k, ⟨x.id :: s'.seen, if x.kind = 1 then s'.op.take k ++ [x.id] else s'.op.take k⟩) := by
   unfold stepI
   rw [if_pos ⟨hp, (inB_no _ _).2 hx'⟩, ho, hk]
  have hn := (goW_new h2).1
  obtain ⟨t', g1, g2⟩ := goW_cong (s := s1) (s' := ⟨x.id :: s'.seen, if x.kind = 1 then s'.op.take k ++ [x.id] else s'.op.take k⟩) (by
   show (if x.kind = 1 then s'.op.take k ++ [x.id] else s'.op.take k) = s1.op
   rw [h6, ho, h4]) (fun y hy h => by
   rw [h5]
   rcases List.mem_cons.1 h with e | h
   ·rw [e]; exact List.mem_cons_self ..
   ·exact List.mem_cons_of_mem _ (hs y (List.mem_cons_of_mem _ hy) h)) h2
  exact ⟨t', by rw [goW, hstep]; exact g1, g2⟩
def shallow (op : List ByteArray) (n : Nat) : List It → Prop
 | [] => True
 | b :: _ => ∃ k, kOf op b.parent = some k ∧ k ≤ n
theorem kOf_take {op : List ByteArray} {p : ByteArray} {k n : Nat} (h : kOf op p = some k) (hk : k ≤ n) : kOf (op.take n) p = some k ∧ (op.take n).take k = op.take k := by
 refine ⟨?_, by rw [List.take_take, Nat.min_eq_left hk]⟩
 rcases kOf_some h with ⟨rfl, rfl⟩ | ⟨hne, i, hi, e, rfl⟩
 ·unfold kOf; rw [if_pos rfl]
 ·have h1 : kOf (op.take (i + 1)) p = some (i + 1) := by
   have hmem : p ∈ op.take (i + 1) := by
    rw [← e]
    exact List.mem_iff_getElem.2 ⟨i, by rw [List.length_take]; omega, by rw [List.getElem_take]⟩
   have hidx : op.findIdx (fun d => decide (d = p)) = i := by
    unfold kOf at h
    rw [if_neg hne, if_pos ((inB_iff _ _).2 (List.mem_of_mem_take hmem))] at h
    injection h with h
    omega
   unfold kOf
   rw [if_neg hne, if_pos ((inB_iff _ _).2 hmem)]
   congr 1
   have h2 : (op.take (i + 1) ++ op.drop (i + 1)).findIdx (fun d => decide (d = p)) = i := by rw [List.take_append_drop]; exact hidx
   rw [List.findIdx_append, if_pos (by
    rw [List.findIdx_lt_length]
    exact ⟨p, hmem, decide_eq_true rfl⟩)] at h2
   omega
  have h2 : op.take n = op.take (i + 1) ++ (op.take n).drop (i + 1) := by
   conv => lhs; rw [← List.take_append_drop (i + 1) (op.take n)]
   rw [List.take_take, Nat.min_eq_left hk]
  rw [h2]
  exact (kOf_append h1).1
theorem goW_shift {l : List It} {s s' t : Wk} {n : Nat} (hn : s'.op.take n = s.op.take n) (hsh : shallow s.op n l) (hs : ∀ x ∈ l, x.id ∈ s'.seen → x.id ∈ s.seen) (h : goW s l = some t) : ∃ t', goW s' l = some t' ∧ (l ≠ [] → t'.op = t.op) := by
 cases l with
 | nil => exact ⟨s', rfl, fun h => absurd rfl h⟩
 | cons x l =>
  obtain ⟨o, s1, h1, h2⟩ := goW_cons h
  obtain ⟨hp, hx, k, hk, h4, h5, h6⟩ := stepI_some h1
  obtain ⟨k', hk', hle⟩ := hsh
  rw [hk] at hk'
  injection hk' with hk'
  subst hk'
  have hx' : x.id ∉ s'.seen := fun h => hx (hs x (List.mem_cons_self ..) h)
  obtain ⟨e1, e2⟩ := kOf_take hk hle
  rw [← hn] at e1 e2
  have e3 : kOf s'.op x.parent = some k ∧ s'.op.take k = s.op.take k := by
   have h7 := kOf_append (r := s'.op.drop n) e1
   rw [List.take_append_drop] at h7
   exact ⟨h7.1, h7.2.trans e2⟩
  have hstep : stepI s' x = some (s'.op.take k, ⟨x.id :: s'.seen, if x.kind = 1 then s'.op.take k ++ [x.id] else s'.op.take k⟩) := by
   unfold stepI
   rw [if_pos ⟨hp, (inB_no _ _).2 hx'⟩, e3.1]
  obtain ⟨t', g1, g2⟩ := goW_cong (s := s1) (s' := ⟨x.id :: s'.seen, if x.kind = 1 then s'.op.take k ++ [x.id] else s'.op.take k⟩) (by
   show (if x.kind = 1 then s'.op.take k ++ [x.id] else s'.op.take k) = s1.op
   rw [h6, e3.2, h4]) (fun y hy h => by
   rw [h5]
   rcases List.mem_cons.1 h with e | h
   ·rw [e]; exact List.mem_cons_self ..
   ·exact List.mem_cons_of_mem _ (hs y (List.mem_cons_of_mem _ hy) h)) h2
  exact ⟨t', by rw [goW, hstep]; exact g1, fun _ => g2⟩
end Dg
namespace Dg
theorem kOf_in {pre E : List ByteArray} {p : ByteArray} {k : Nat} (hp : p ∉ pre) (hne : p ≠ nil8) (h : kOf (pre ++ E) p = some k) : ∃ i, ∃ hi : i < E.length, E[i] = p ∧ k = pre.length + i + 1 ∧ ∀ pre' : List ByteArray, p ∉ pre' → kOf (pre' ++ E) p = some (pre'.length + i + 1) := by
 have hmem : p ∈ E := by
  rcases kOf_some h with ⟨e, _⟩ | ⟨_, i, hi, e, _⟩
  ·exact absurd e hne
  ·have : p ∈ pre ++ E := e ▸ List.getElem_mem hi
   exact (List.mem_append.1 this).resolve_left hp
 have hlt : E.findIdx (fun d => decide (d = p)) < E.length := by
  rw [List.findIdx_lt_length]
  exact ⟨p, hmem, decide_eq_true rfl⟩
 have key : ∀ pre' : List ByteArray, p ∉ pre' → kOf (pre' ++ E) p = some (pre'.length + E.findIdx (fun d => decide (d = p)) + 1) := fun pre' hp' => by
  unfold kOf
  rw [if_neg hne, if_pos ((inB_iff _ _).2 (List.mem_append.2 (Or.inr hmem)))]
  rw [List.findIdx_append, if_neg (by
   rw [List.findIdx_lt_length]
   rintro ⟨d, hd, e⟩
   exact hp' (of_decide_eq_true e ▸ hd))]
  congr 1
  omega
 refine ⟨_, hlt, of_decide_eq_true (List.findIdx_getElem (w := hlt)), ?_, key⟩
 rw [key pre hp] at h
 injection h with h
 exact h.symm
theorem goW_pre (ids : List ByteArray) (hnil : nil8 ∉ ids) : ∀ {R : List It} {s s' t : Wk} {pre pre' E : List ByteArray}, s.op = pre ++ E → s'.op = pre' ++ E → (∀ e ∈ E, e ∈ ids) → (∀ p ∈ pre, p ∉ ids) → (∀ p ∈ pre', p ∉ ids) → (∀ y ∈ R, y.parent ∈ ids ∧ y.id ∈ ids) → (∀ y ∈ R, y.id ∈ s'.seen → y.id ∈ s.seen) → goW s R = some t →
  ∃ t' E', goW s' R = some t' ∧ t.op = pre ++ E' ∧ t'.op = pre' ++ E' ∧ ∀ e ∈ E', e ∈ ids
 | [], s, s', t, pre, pre', E, h1, h2, h3, _, _, _, _, h => by cases h; exact ⟨s', E, rfl, h1, h2, h3⟩
 | y :: R, s, s', t, pre, pre', E, h1, h2, h3, h4, h5, h6, h7, h => by
  obtain ⟨o, s1, g1, g2⟩ := goW_cons h
  obtain ⟨hp, hx, k, hk, b4, b5, b6⟩ := stepI_some g1
  obtain ⟨hy1, hy2⟩ := h6 y (List.mem_cons_self ..)
  have hne : y.parent ≠ nil8 := fun e => hnil (e ▸ hy1)
  rw [h1] at hk
  obtain ⟨i, hi, he, hki, hall⟩ := kOf_in (fun h => h4 _ h hy1) hne hk
  have hk2 := hall pre' (fun h => h5 _ h hy1)
  have hx' : y.id ∉ s'.seen := fun h => hx (h7 y (List.mem_cons_self ..) h)
  have tk : ∀ q : List ByteArray, (q ++ E).take (q.length + i + 1) = q ++ E.take (i + 1) := fun q => by
   rw [List.take_append, List.take_of_length_le (by omega), show q.length + i + 1 - q.length = i + 1 by omega]
  have hstep : stepI s' y = some (pre' ++ E.take (i + 1), ⟨y.id :: s'.seen, if y.kind = 1 then pre' ++ E.take (i + 1) ++ [y.id] else pre' ++ E.take (i + 1)⟩) := by
   unfold stepI
   rw [if_pos ⟨hp, (inB_no _ _).2 hx'⟩, h2, hk2]
   simp only [tk pre']
  have ho : o = pre ++ E.take (i + 1) := by rw [b4, h1, hki, tk pre]
  have hE1 : s1.op = pre ++ (if y.kind = 1 then E.take (i + 1) ++ [y.id] else E.take (i + 1)) := by
   rw [b6, ho]
   split
   ·rw [List.append_assoc]
   ·rfl
  obtain ⟨t', E', i1, i2, i3, i4⟩ := goW_pre ids hnil (s := s1) (s' := ⟨y.id :: s'.seen, if y.kind = 1 then pre' ++ E.take (i + 1) ++ [y.id] else pre' ++ E.take (i + 1)⟩) (pre := pre) (pre' := pre') hE1 (by
   show (if y.kind = 1 then pre' ++ E.take (i + 1) ++ [y.id] else pre' ++ E.take (i + 1)) = _
   split
   ·rw [List.append_assoc]
   ·rfl) (fun e he => by
   split at he
   ·rcases List.mem_append.1 he with h | h
    ·exact h3 e (List.mem_of_mem_take h)
    ·rw [List.mem_singleton.1 h]; exact hy2
   ·exact h3 e (List.mem_of_mem_take he)) h4 h5 (fun z hz => h6 z (List.mem_cons_of_mem _ hz)) (fun z hz h => by
   rw [b5]
   rcases List.mem_cons.1 h with e | h
   ·rw [e]; exact List.mem_cons_self ..
   ·exact List.mem_cons_of_mem _ (h7 z (List.mem_cons_of_mem _ hz) h)) g2
  exact ⟨t', E', by rw [goW, hstep]; exact i1, i2, i3, i4⟩
theorem name_ne {s : ByteArray} (h : isNameB s = true) : s ≠ nil8 := fun e => by
 subst e
 exact absurd h (by decide)
theorem proper_name {x : It} (h : properI x = true) : isNameB x.id = true := by
 unfold properI at h
 split at h
 ·simp only [Bool.and_eq_true] at h; exact h.2.1
 ·split at h
  ·simp only [Bool.and_eq_true] at h; exact h.2.1
  ·cases h
theorem goW_proper : ∀ {l : List It} {s t : Wk}, goW s l = some t → ∀ x ∈ l, properI x = true
 | [], _, _, _, x, hx => by cases hx
 | y :: l, s, t, h, x, hx => by
  obtain ⟨o, s1, g1, g2⟩ := goW_cons h
  rcases List.mem_cons.1 hx with rfl | hx
  ·exact (stepI_some g1).1
  ·exact goW_proper g2 x hx
def treeT (x : It) (R : List It) : Prop := ∀ y ∈ R, y.parent ∈ (x :: R).map It.id
theorem ids_nil {l : List It} {s t : Wk} (h : goW s l = some t) : nil8 ∉ l.map It.id := fun hm => by
 obtain ⟨y, hy, e⟩ := List.mem_map.1 hm
 exact name_ne (proper_name (goW_proper h y hy)) e
theorem kOf_le {op : List ByteArray} {p : ByteArray} {k : Nat} (h : kOf op p = some k) : k ≤ op.length := by
 rcases kOf_some h with ⟨_, rfl⟩ | ⟨_, i, hi, _, rfl⟩
 ·exact Nat.zero_le _
 ·exact hi
theorem tree_op {s u : Wk} {x : It} {R : List It} (hso : ∀ p ∈ s.op, p ∈ s.seen) (h : goW s (x :: R) = some u) (ht : treeT x R) {n : Nat} (hk : kOf s.op x.parent = some n) : ∃ E, u.op = s.op.take n ++ E ∧ ∀ e ∈ E, e ∈ (x :: R).map It.id := by
 have hnil := ids_nil h
 have hnew := (goW_new h).1
 obtain ⟨o, s1, g1, g2⟩ := goW_cons h
 obtain ⟨_, _, k, hk', b4, b5, b6⟩ := stepI_some g1
 rw [hk] at hk'
 injection hk' with hk'
 subst hk'
 have hpre : ∀ p ∈ s.op.take n, p ∉ (x :: R).map It.id := fun p hp hm => by
  obtain ⟨y, hy, e⟩ := List.mem_map.1 hm
  exact hnew y hy (e ▸ hso p (List.mem_of_mem_take hp))
 have h1 : s1.op = s.op.take n ++ (if x.kind = 1 then [x.id] else []) := by
  rw [b6, b4]
  split
  ·rfl
  ·rw [List.append_nil]
 obtain ⟨t', E', _, i2, _, i4⟩ := goW_pre ((x :: R).map It.id) hnil (s' := s1) h1 h1 (fun e he => by
  split at he
  ·rw [List.mem_singleton.1 he]; exact List.mem_cons_self ..
  ·cases he) hpre hpre (fun y hy => ⟨ht y hy, List.mem_map.2 ⟨y, List.mem_cons_of_mem _ hy, rfl⟩⟩) (fun _ _ h => h) g2
 exact ⟨E', i2, i4⟩
theorem take_take_len {a E : List ByteArray} {n : Nat} (hn : n ≤ a.length) : (a.take n ++ E).take n = a.take n := by
 rw [List.take_append, List.length_take, Nat.min_eq_left hn, Nat.sub_self, List.take_zero, List.append_nil, List.take_take, Nat.min_self]
theorem take_out {s t : Wk} {x : It} {R B : List It} (hso : ∀ p ∈ s.op, p ∈ s.seen) (h : goW s ((x :: R) ++ B) = some t) (ht : treeT x R) (hB : ∀ b B', B = b :: B' → b.parent ∉ (x :: R).map It.id) : ∃ t', goW s B = some t' ∧ (B ≠ [] → t'.op = t.op) := by
 obtain ⟨u, h1, h2⟩ := goW_split h
 obtain ⟨o, s1, g1, _⟩ := goW_cons h1
 obtain ⟨_, _, n, hk, _⟩ := stepI_some g1
 obtain ⟨E, e1, e2⟩ := tree_op hso h1 ht hk
 have hn := kOf_le hk
 refine goW_shift (s := u) (n := n) (by rw [e1, take_take_len hn]) ?_ (fun y _ hy => by
  rw [goW_seen h1]
  exact List.mem_append.2 (Or.inr hy)) h2
 cases B with
 | nil => trivial
 | cons b B' =>
  obtain ⟨o', s2, q1, _⟩ := goW_cons h2
  obtain ⟨_, _, k, hk2, _⟩ := stepI_some q1
  refine ⟨k, hk2, ?_⟩
  rcases kOf_some hk2 with ⟨_, rfl⟩ | ⟨_, i, hi, e, rfl⟩
  ·exact Nat.zero_le _
  ·rcases Nat.lt_or_ge i n with h3 | h3
   ·exact h3
   ·exfalso
    have h4 : u.op[i] ∈ E := by
     have h5 : (s.op.take n).length = n := by rw [List.length_take, Nat.min_eq_left hn]
     simp only [e1]
     rw [List.getElem_append_right (by omega)]
     exact List.getElem_mem _
    exact hB b B' rfl (e ▸ e2 _ h4)
theorem lay_in {s t u : Wk} {x : It} {R B : List It} (hso : ∀ p ∈ s.op, p ∈ s.seen) (h : goW s B = some t) (h1 : goW s (x :: R) = some u) (ht : treeT x R) {n : Nat} (hk : kOf s.op x.parent = some n) (hsh : shallow s.op n B) (hd : ∀ y ∈ B, y.id ∉ (x :: R).map It.id) : ∃ t', goW s ((x :: R) ++ B) = some t' ∧ (B ≠ [] → t'.op = t.op) := by
 obtain ⟨E, e1, e2⟩ := tree_op hso h1 ht hk
 obtain ⟨t', g1, g2⟩ := goW_shift (s := s) (s' := u) (n := n) (by rw [e1, take_take_len (kOf_le hk)]) hsh (fun y hy hm => by
  rw [goW_seen h1] at hm
  rcases List.mem_append.1 hm with h | h
  ·exact absurd (List.mem_reverse.1 h) (hd y hy)
  ·exact h) h
 exact ⟨t', goW_join h1 g1, g2⟩
theorem tree_moved {s u s' : Wk} {x x' : It} {R : List It} (hso : ∀ p ∈ s.op, p ∈ s.seen) (hso' : ∀ p ∈ s'.op, p ∈ s'.seen) (h : goW s (x :: R) = some u) (ht : treeT x R) (hid : x'.id = x.id) (hkd : x'.kind = x.kind) (hpr : properI x' = true) {n' : Nat} (hk' : kOf s'.op x'.parent = some n') (hnew : ∀ y ∈ x :: R, y.id ∉ s'.seen) : ∃ u', goW s' (x' :: R) = some u' ∧ treeT x' R := by
 have hnil := ids_nil h
 have hn1 := (goW_new h).1
 have hids : (x' :: R).map It.id = (x :: R).map It.id := by rw [List.map_cons, List.map_cons, hid]
 obtain ⟨o, s1, g1, g2⟩ := goW_cons h
 obtain ⟨_, _, n, hk, b4, b5, b6⟩ := stepI_some g1
 have hx' : x'.id ∉ s'.seen := by rw [hid]; exact hnew x (List.mem_cons_self ..)
 have hstep : stepI s' x' = some (s'.op.take n', ⟨x'.id :: s'.seen, if x'.kind = 1 then s'.op.take n' ++ [x'.id] else s'.op.take n'⟩) := by
  unfold stepI
  rw [if_pos ⟨hpr, (inB_no _ _).2 hx'⟩, hk']
 have h1 : s1.op = s.op.take n ++ (if x.kind = 1 then [x.id] else []) := by
  rw [b6, b4]
  split
  ·rfl
  ·rw [List.append_nil]
 have hnd := (goW_new h).2
 obtain ⟨t', E', i1, _, _, _⟩ := goW_pre ((x :: R).map It.id) hnil (s := s1) (s' := ⟨x'.id :: s'.seen, if x'.kind = 1 then s'.op.take n' ++ [x'.id] else s'.op.take n'⟩) (pre := s.op.take n) (pre' := s'.op.take n') h1 (by
  show (if x'.kind = 1 then s'.op.take n' ++ [x'.id] else s'.op.take n') = _
  rw [hkd, hid]
  split
  ·rfl
  ·rw [List.append_nil]) (fun e he => by
  split at he
  ·rw [List.mem_singleton.1 he]; exact List.mem_cons_self ..
  ·cases he) (fun p hp hm => by
  obtain ⟨y, hy, e⟩ := List.mem_map.1 hm
  exact hn1 y hy (e ▸ hso p (List.mem_of_mem_take hp))) (fun p hp hm => by
  obtain ⟨y, hy, e⟩ := List.mem_map.1 hm
  exact hnew y hy (e ▸ hso' p (List.mem_of_mem_take hp))) (fun y hy => ⟨ht y hy, List.mem_map.2 ⟨y, List.mem_cons_of_mem _ hy, rfl⟩⟩) (fun y hy hm => by
  rcases List.mem_cons.1 hm with e | hm
  ·rw [e, hid, b5]; exact List.mem_cons_self ..
  ·exact absurd hm (hnew y (List.mem_cons_of_mem _ hy))) g2
 exact ⟨t', by rw [goW, hstep]; exact i1, fun y hy => by rw [hids]; exact ht y hy⟩
end Dg
namespace Dg
theorem valid_proper {l : List It} (h : validC l = true) : ∀ x ∈ l, properI x = true := fun x hx => by
 obtain ⟨s, hw, _⟩ := valid_walk h
 obtain ⟨k, hk, rfl⟩ := List.mem_iff_getElem.1 hx
 obtain ⟨_, _, _, _, _, hp⟩ := visit_at (Nat.le_refl _) hw hk
 exact hp
theorem proper_kind {x : It} (h : properI x = true) : (x.kind = 1 ∧ x.gone = false ∧ x.north = nil8 ∧ x.south = nil8) ∨ (x.kind = 2 ∧ x.north.size ≤ 400 ∧ x.south.size ≤ 400) := by
 unfold properI at h
 split at h
 ·rename_i h1
  simp only [Bool.and_eq_true, decide_eq_true_eq, Bool.not_eq_true'] at h
  exact Or.inl ⟨h1, h.2.2.2.2, h.2.2.1, h.2.2.2.1⟩
 ·split at h
  ·rename_i h2
   simp only [Bool.and_eq_true, decide_eq_true_eq] at h
   exact Or.inr ⟨h2, h.2.2.1, h.2.2.2⟩
  ·cases h
end Dg
namespace Dg
def StackOk (l : List It) (vs : List (List ByteArray)) (k : Nat) (op : List ByteArray) : Prop :=
 ∀ (t : Nat) (d : ByteArray), op[t]? = some d → ∃ (j : Nat) (x : It), j < k ∧ l[j]? = some x ∧ x.id = d ∧ x.kind = 1 ∧ vs[j]? = some (op.take t)
theorem stack_take {l : List It} {vs : List (List ByteArray)} {k : Nat} {op : List ByteArray} (h : StackOk l vs k op) (n : Nat) : StackOk l vs k (op.take n) := fun t d ht => by
 have htn : t < n := by
  have := (List.getElem?_eq_some_iff.1 ht).1
  rw [List.length_take] at this
  omega
 rw [List.getElem?_take_of_lt htn] at ht
 obtain ⟨j, x, h1, h2, h3, h4, h5⟩ := h t d ht
 exact ⟨j, x, h1, h2, h3, h4, by rw [List.take_take, Nat.min_eq_left (by omega)]; exact h5⟩
theorem stack_more {l : List It} {vs vs' : List (List ByteArray)} {k : Nat} {op : List ByteArray} (h : StackOk l vs k op) (hv : ∀ j, j < k → vs'[j]? = vs[j]?) : StackOk l vs' (k + 1) op := fun t d ht => by
 obtain ⟨j, x, h1, h2, h3, h4, h5⟩ := h t d ht
 exact ⟨j, x, by omega, h2, h3, h4, by rw [hv j h1]; exact h5⟩
theorem walk_stack {l : List It} : ∀ {k : Nat} (_ : k ≤ l.length) {vs : List (List ByteArray)} {s : Wk}, walkTo l k = some (vs, s) → StackOk l vs k s.op ∧ ∀ j o, vs[j]? = some o → StackOk l vs j o
 | 0, _, vs, s, h => by cases h; exact ⟨fun t d ht => by simp at ht, fun j o ho => by simp at ho⟩
 | k + 1, hk, vs, s, h => by
  have hk' : k < l.length := by omega
  obtain ⟨vs0, s0, o, h1, h2, rfl⟩ := walk_step hk' h
  obtain ⟨a1, a2⟩ := walk_stack (by omega) h1
  have hl := walk_len (by omega) h1
  obtain ⟨_, _, k', _, b4, _, b6⟩ := stepI_some h2
  have hv : ∀ j, j < k → (vs0 ++ [o])[j]? = vs0[j]? := fun j hj => List.getElem?_append_left (by omega)
  have ho : StackOk l (vs0 ++ [o]) (k + 1) o := by rw [b4]; exact stack_more (stack_take a1 k') (fun j hj => by rw [← b4]; exact hv j hj)
  refine ⟨?_, fun j o' ho' => ?_⟩
  ·rw [b6]
   split
   ·rename_i hkind
    intro t d ht
    rcases Nat.lt_or_ge t o.length with h3 | h3
    ·rw [List.getElem?_append_left h3] at ht
     obtain ⟨j, x, c1, c2, c3, c4, c5⟩ := ho t d ht
     exact ⟨j, x, c1, c2, c3, c4, by rw [List.take_append_of_le_length (by omega)]; exact c5⟩
    ·have h4 : t = o.length := by
      have := (List.getElem?_eq_some_iff.1 ht).1
      rw [List.length_append, List.length_singleton] at this
      omega
     subst h4
     rw [List.getElem?_append_right (Nat.le_refl _), Nat.sub_self] at ht
     obtain rfl : l[k].id = d := by simpa using ht
     refine ⟨k, l[k], by omega, List.getElem?_eq_getElem hk', rfl, hkind, ?_⟩
     rw [List.getElem?_append_right (by omega), hl, Nat.sub_self, List.take_left]
     rfl
   ·exact ho
  ·rcases Nat.lt_or_ge j k with h3 | h3
   ·rw [List.getElem?_append_left (by omega)] at ho'
    have h5 := a2 j o' ho'
    intro t d ht
    obtain ⟨i, x, c1, c2, c3, c4, c5⟩ := h5 t d ht
    exact ⟨i, x, c1, c2, c3, c4, by rw [hv i (by omega)]; exact c5⟩
   ·have h4 : j = k := by
     have := (List.getElem?_eq_some_iff.1 ho').1
     rw [List.length_append, List.length_singleton] at this
     omega
    subst h4
    rw [List.getElem?_append_right (by omega), hl, Nat.sub_self] at ho'
    obtain rfl : o = o' := by simpa using ho'
    rw [b4]
    intro t d ht
    obtain ⟨i, x, c1, c2, c3, c4, c5⟩ := stack_take a1 k' t d ht
    exact ⟨i, x, c1, c2, c3, c4, by rw [← b4, hv i c1]; rw [← b4] at c5; exact c5⟩
theorem visit_up {l : List It} {n : Nat} (hn : n ≤ l.length) {vs : List (List ByteArray)} {s : Wk} (h : walkTo l n = some (vs, s)) {k : Nat} (hk : k < n) : (l[k].parent = nil8 ∧ vs[k]? = some []) ∨ (l[k].parent ≠ nil8 ∧ ∃ (j : Nat) (x : It) (o : List ByteArray), j < k ∧ l[j]? = some x ∧ x.id = l[k].parent ∧ x.kind = 1 ∧ vs[j]? = some o ∧ vs[k]? = some (o ++ [l[k].parent])) := by
 obtain ⟨s1, h1⟩ := walk_le hn h (k + 1) (by omega)
 obtain ⟨vs0, s0, o0, w0, st0, e0⟩ := walk_step (l := l) (k := k) (by omega) h1
 have l0 := walk_len (by omega) w0
 have a0 : (vs.take (k + 1))[k]? = some o0 := by rw [e0, List.getElem?_append_right (by omega), l0]; simp
 rw [List.getElem?_take_of_lt (by omega)] at a0
 obtain ⟨hs, _⟩ := walk_stack (by omega) w0
 obtain ⟨_, _, j, c2, c3, _, _⟩ := stepI_some st0
 unfold kOf at c2
 by_cases hp : l[k].parent = nil8
 ·rw [if_pos hp] at c2
  injection c2 with c2
  refine Or.inl ⟨hp, ?_⟩
  rw [a0, c3, ← c2]; rfl
 ·rw [if_neg hp] at c2
  split at c2
  ·rename_i hin
   injection c2 with c2
   have hf : (s0.op.findIdx fun d => decide (d = l[k].parent)) < s0.op.length := List.findIdx_lt_length_of_exists ⟨_, (inB_iff _ _).1 hin, decide_eq_true rfl⟩
   have hg2 := of_decide_eq_true (List.findIdx_getElem (w := hf))
   generalize (s0.op.findIdx fun d => decide (d = l[k].parent)) = t at *
   obtain ⟨i, x, d1, d2, d3, d4, d5⟩ := hs t l[k].parent (by rw [List.getElem?_eq_getElem hf, hg2])
   refine Or.inr ⟨hp, i, x, s0.op.take t, d1, d2, d3, d4, ?_, ?_⟩
   ·have : (vs.take (k + 1))[i]? = some (s0.op.take t) := by rw [e0, List.getElem?_append_left (by omega)]; exact d5
    rw [List.getElem?_take_of_lt (by omega)] at this
    exact this
   ·rw [a0, c3, ← c2, List.take_succ_eq_append_getElem hf, hg2]
  ·cases c2
end Dg
namespace Dg
theorem parent_open {l : List It} {n : Nat} (hn : n ≤ l.length) {vs : List (List ByteArray)} {s : Wk} (h : walkTo l n = some (vs, s)) {k : Nat} (hk : k < n) :
  (l[k].parent = nil8 ∧ vs[k]? = some []) ∨ (l[k].parent ≠ nil8 ∧ ∃ j o', ∃ hj : j < k, l[j].id = l[k].parent ∧ vs[j]? = some o' ∧ vs[k]? = some (o' ++ [l[k].parent])) := by
 obtain ⟨s1, h1⟩ := walk_le hn h (k + 1) (by omega)
 obtain ⟨vs0, s0, o0, w0, st0, e0⟩ := walk_step (l := l) (k := k) (by omega) h1
 have l0 := walk_len (by omega) w0
 have a0 : (vs.take (k + 1))[k]? = some o0 := by rw [e0, List.getElem?_append_right (by omega), l0]; simp
 rw [List.getElem?_take_of_lt (by omega)] at a0
 obtain ⟨_, _, j, c2, c3, _, _⟩ := stepI_some st0
 obtain ⟨_, hst⟩ := walk_stack hn h
 rcases kOf_some c2 with ⟨e, rfl⟩ | ⟨hne, i, hi, e, rfl⟩
 ·exact Or.inl ⟨e, by rw [a0, c3]; rfl⟩
 ·right
  have ho : o0 = s0.op.take i ++ [l[k].parent] := by rw [c3, List.take_succ_eq_append_getElem hi, e]
  have hli : (s0.op.take i).length = i := by rw [List.length_take]; omega
  obtain ⟨q, x, q1, q2, q3, _, q5⟩ := hst k o0 a0 i l[k].parent (by rw [ho, List.getElem?_append_right (by omega), hli, Nat.sub_self]; rfl)
  rw [List.getElem?_eq_getElem (by omega)] at q2
  injection q2 with q2
  refine ⟨hne, q, s0.op.take i, q1, by rw [q2]; exact q3, ?_, by rw [a0, ho]⟩
  rw [q5, ho, List.take_append_of_le_length (by omega), List.take_of_length_le (by omega)]
theorem subtree {l : List It} (hv : validC l = true) {i : Nat} (hi : i < l.length) : ∃ m, i + m < l.length ∧ (0 < m → l[i].kind = 1) ∧ treeT l[i] ((l.drop (i + 1)).take m) ∧ (∀ h : i + m + 1 < l.length, l[i + m + 1].parent ∉ (l[i] :: (l.drop (i + 1)).take m).map It.id) ∧
  ∀ k, k < l.length → ∀ o, (visits l)[k]? = some o → (l[i].id ∈ o ↔ i < k ∧ k ≤ i + m) := by
 obtain ⟨s, hw, _⟩ := valid_walk hv
 obtain ⟨m, h1, h2, h3⟩ := below_run (Nat.le_refl _) hw hi
 have hl := walk_len (Nat.le_refl _) hw
 have mem : ∀ y, y ∈ (l.drop (i + 1)).take m → ∃ k, ∃ hk : k < l.length, i < k ∧ k ≤ i + m ∧ l[k] = y := fun y hy => by
  obtain ⟨t, ht, rfl⟩ := List.mem_iff_getElem.1 hy
  rw [List.length_take, List.length_drop] at ht
  refine ⟨i + 1 + t, by omega, by omega, by omega, ?_⟩
  rw [List.getElem_take, List.getElem_drop]
 have mem2 : ∀ k (hk : k < l.length), i < k → k ≤ i + m → l[k] ∈ (l.drop (i + 1)).take m := fun k hk a b =>
  List.mem_iff_getElem.2 ⟨k - (i + 1), by rw [List.length_take, List.length_drop]; omega, by
   rw [List.getElem_take, List.getElem_drop]
   have : i + 1 + (k - (i + 1)) = k := by omega
   simp only [this]⟩
 refine ⟨m, h1, h2, fun y hy => ?_, fun hk hm => ?_, h3⟩
 ·obtain ⟨k, hk, a, b, rfl⟩ := mem y hy
  rcases parent_open (Nat.le_refl _) hw hk with ⟨_, e⟩ | ⟨_, j, o', hj, e1, e2, e3⟩
  ·have := (h3 k hk _ e).2 ⟨a, b⟩
   cases this
  ·have h4 := (h3 k hk _ e3).2 ⟨a, b⟩
   rcases List.mem_append.1 h4 with h5 | h5
   ·have h6 := (h3 j (by omega) _ e2).1 h5
    rw [← e1]
    exact List.mem_map.2 ⟨l[j], List.mem_cons_of_mem _ (mem2 j (by omega) h6.1 h6.2), rfl⟩
   ·rw [← List.mem_singleton.1 h5]
    exact List.mem_cons_self ..
 ·have hne : l[i + m + 1].parent ≠ nil8 := fun e => by
   rw [e] at hm
   obtain ⟨y, hy, e9⟩ := List.mem_map.1 hm
   have hyl : y ∈ l := by
    rcases List.mem_cons.1 hy with rfl | hy
    ·exact List.getElem_mem hi
    ·exact List.mem_of_mem_drop (List.mem_of_mem_take hy)
   exact name_ne (proper_name (valid_proper hv y hyl)) e9
  rcases parent_open (Nat.le_refl _) hw hk with ⟨e, _⟩ | ⟨_, j, o', hj, e1, e2, e3⟩
  ·exact hne e
  ·obtain ⟨y, hy, e9⟩ := List.mem_map.1 hm
   have hk3 := h3 (i + m + 1) hk _ e3
   have key : l[i].id ∈ o' ++ [l[i + m + 1].parent] → False := fun h => by
    have := hk3.1 h
    omega
   have uniq : ∀ j' (hj' : j' < l.length), l[j'].id = l[j].id → j' = j := fun j' hj' e => by
    rcases Nat.lt_trichotomy j' j with h | h | h
    ·exact absurd e (ids_ne (Nat.le_refl _) hw h (by omega))
    ·exact h
    ·exact absurd e.symm (ids_ne (Nat.le_refl _) hw h hj')
   rcases List.mem_cons.1 hy with rfl | hy
   ·exact key (List.mem_append.2 (Or.inr (by rw [← e9]; exact List.mem_singleton.2 rfl)))
   ·obtain ⟨j', hj', a, b, rfl⟩ := mem y hy
    have hjj := uniq j' hj' (e9.trans e1.symm)
    subst hjj
    exact key (List.mem_append.2 (Or.inl ((h3 j' hj' _ e2).2 ⟨a, b⟩)))
theorem three (l : List It) {i m : Nat} (hi : i < l.length) : l = l.take i ++ ((l[i] :: (l.drop (i + 1)).take m) ++ l.drop (i + 1 + m)) := by
 conv => lhs; rw [← List.take_append_drop i l, List.drop_eq_getElem_cons hi, ← List.take_append_drop m (l.drop (i + 1)), List.drop_drop]
 rfl
end Dg
namespace Dg
theorem goW_open : ∀ {l : List It} {s t : Wk}, (∀ p ∈ s.op, p ∈ s.seen) → goW s l = some t → ∀ p ∈ t.op, p ∈ t.seen
 | [], s, t, hs, h => by cases h; exact hs
 | x :: l, s, t, hs, h => by
  obtain ⟨o, s1, g1, g2⟩ := goW_cons h
  obtain ⟨_, _, k, _, b4, b5, b6⟩ := stepI_some g1
  refine goW_open (fun p hp => ?_) g2
  rw [b5]
  have ho : ∀ p ∈ o, p ∈ x.id :: s.seen := fun p hp => by
   rw [b4] at hp
   exact List.mem_cons_of_mem _ (hs p (List.mem_of_mem_take hp))
  rw [b6] at hp
  split at hp
  ·rcases List.mem_append.1 hp with h | h
   ·exact ho p h
   ·rw [List.mem_singleton.1 h]; exact List.mem_cons_self ..
  ·exact ho p hp
theorem open0 : ∀ p ∈ wk0.op, p ∈ wk0.seen := fun p hp => by cases hp
theorem shallow_all {s t : Wk} {l : List It} (h : goW s l = some t) : shallow s.op s.op.length l := by
 cases l with
 | nil => trivial
 | cons b l =>
  obtain ⟨o, s1, g1, _⟩ := goW_cons h
  obtain ⟨_, _, k, hk, _⟩ := stepI_some g1
  exact ⟨k, hk, kOf_le hk⟩
theorem at_cut {l : List It} (hv : validC l = true) (k : Nat) : ∃ s t, goW wk0 (l.take k) = some s ∧ goW s (l.drop k) = some t := by
 obtain ⟨⟨t, ht⟩, _⟩ := (valid_go l).1 hv
 rw [← List.take_append_drop k l] at ht
 obtain ⟨s, h1, h2⟩ := goW_split ht
 exact ⟨s, t, h1, h2⟩
theorem place_top {l : List It} (hv : validC l = true) : ∃ s n, goW wk0 (l.take 0) = some s ∧ kOf s.op nil8 = some n ∧ shallow s.op n (l.drop 0) := by
 obtain ⟨s, t, h1, h2⟩ := at_cut hv 0
 obtain rfl : wk0 = s := by
  rw [List.take_zero] at h1
  injection h1
 exact ⟨wk0, 0, h1, rfl, shallow_all h2⟩
theorem place_under {l : List It} (hv : validC l = true) {j : Nat} (hj : j < l.length) (hk : l[j].kind = 1) : ∃ s n, goW wk0 (l.take (j + 1)) = some s ∧ kOf s.op l[j].id = some n ∧ shallow s.op n (l.drop (j + 1)) := by
 obtain ⟨s, t, h1, h2⟩ := at_cut hv (j + 1)
 refine ⟨s, s.op.length, h1, ?_, shallow_all h2⟩
 rw [List.take_succ_eq_append_getElem hj] at h1
 obtain ⟨u, g1, g2⟩ := goW_split h1
 have hu := goW_open open0 g1
 obtain ⟨o, s1, q1, q2⟩ := goW_cons g2
 obtain rfl : s1 = s := by
  rw [goW] at q2
  injection q2
 obtain ⟨hp, hx, k, _, b4, _, b6⟩ := stepI_some q1
 have hno : l[j].id ∉ o := fun h => hx (hu _ (List.mem_of_mem_take (b4 ▸ h)))
 rw [b6, if_pos hk]
 unfold kOf
 rw [if_neg (name_ne (proper_name hp)), if_pos ((inB_iff _ _).2 (List.mem_append.2 (Or.inr (List.mem_singleton.2 rfl)))), List.findIdx_append, if_neg (by
  rw [List.findIdx_lt_length]
  rintro ⟨d, hd, e⟩
  exact hno (of_decide_eq_true e ▸ hd)), List.length_append, List.length_singleton]
 simp [List.findIdx_cons]
theorem after_tree {s u t : Wk} {x : It} {R B : List It} (hso : ∀ p ∈ s.op, p ∈ s.seen) (h1 : goW s (x :: R) = some u) (h2 : goW u B = some t) (ht : treeT x R) (hB : ∀ b B', B = b :: B' → b.parent ∉ (x :: R).map It.id) : ∃ n, kOf u.op x.parent = some n ∧ shallow u.op n B := by
 obtain ⟨o, s1, g1, _⟩ := goW_cons h1
 obtain ⟨_, _, n, hk, _⟩ := stepI_some g1
 obtain ⟨E, e1, e2⟩ := tree_op hso h1 ht hk
 have hn := kOf_le hk
 refine ⟨n, ?_, ?_⟩
 ·rw [e1]
  exact (kOf_append (kOf_take hk (Nat.le_refl _)).1).1
 ·cases B with
  | nil => trivial
  | cons b B' =>
   obtain ⟨o', s2, q1, _⟩ := goW_cons h2
   obtain ⟨_, _, k, hk2, _⟩ := stepI_some q1
   refine ⟨k, hk2, ?_⟩
   rcases kOf_some hk2 with ⟨_, rfl⟩ | ⟨_, i, hi, e, rfl⟩
   ·exact Nat.zero_le _
   ·rcases Nat.lt_or_ge i n with h3 | h3
    ·exact h3
    ·exfalso
     have h4 : u.op[i] ∈ E := by
      have h5 : (s.op.take n).length = n := by rw [List.length_take, Nat.min_eq_left hn]
      simp only [e1]
      rw [List.getElem_append_right (by omega)]
      exact List.getElem_mem _
     exact hB b B' rfl (e ▸ e2 _ h4)
theorem place_after {l : List It} (hv : validC l = true) {j m : Nat} (hj : j < l.length) (hm : j + m < l.length) (ht : treeT l[j] ((l.drop (j + 1)).take m)) (hB : ∀ h : j + m + 1 < l.length, l[j + m + 1].parent ∉ (l[j] :: (l.drop (j + 1)).take m).map It.id) :
  ∃ s n, goW wk0 (l.take (j + 1 + m)) = some s ∧ kOf s.op l[j].parent = some n ∧ shallow s.op n (l.drop (j + 1 + m)) := by
 obtain ⟨s, t, h1, h2⟩ := at_cut hv (j + 1 + m)
 have e : l.take (j + 1 + m) = l.take j ++ (l[j] :: (l.drop (j + 1)).take m) := by
  rw [List.take_add, List.take_succ_eq_append_getElem hj, List.append_assoc]; rfl
 rw [e] at h1 ⊢
 obtain ⟨u, g1, g2⟩ := goW_split h1
 obtain ⟨n, a1, a2⟩ := after_tree (goW_open open0 g1) g2 h2 ht (fun b B' hb => by
  have hlt : j + m + 1 < l.length := by
   have : (l.drop (j + 1 + m)).length = (b :: B').length := by rw [hb]
   rw [List.length_drop, List.length_cons] at this
   omega
  have h5 := hB hlt
  have h6 : l.drop (j + 1 + m) = l[j + m + 1] :: l.drop (j + m + 1 + 1) := by
   rw [show j + 1 + m = j + m + 1 by omega]
   exact List.drop_eq_getElem_cons hlt
  rw [h6] at hb
  injection hb with hb _
  rw [← hb]
  exact h5)
 exact ⟨s, n, h1, a1, a2⟩
theorem insert_valid {l : List It} (hv : validC l = true) {a : Nat} {s : Wk} {n : Nat} {x : It} {R : List It} {u : Wk} (h1 : goW wk0 (l.take a) = some s) (hk : kOf s.op x.parent = some n) (hsh : shallow s.op n (l.drop a)) (h2 : goW s (x :: R) = some u) (ht : treeT x R) (hd : ∀ y ∈ l.drop a, y.id ∉ (x :: R).map It.id) (hlen : l.length + (x :: R).length ≤ 2000) : validC (l.take a ++ ((x :: R) ++ l.drop a)) = true := by
 obtain ⟨s', t, g1, g2⟩ := at_cut hv a
 rw [h1] at g1
 injection g1 with g1
 subst g1
 obtain ⟨t', q1, _⟩ := lay_in (goW_open open0 h1) g2 h2 ht hk hsh hd
 refine (valid_go _).2 ⟨⟨t', goW_join h1 q1⟩, ?_⟩
 rw [List.length_append, List.length_append, List.length_take, List.length_drop]
 omega
theorem remove_valid {l : List It} (hv : validC l = true) {i m : Nat} (hi : i < l.length) (ht : treeT l[i] ((l.drop (i + 1)).take m)) (hB : ∀ h : i + m + 1 < l.length, l[i + m + 1].parent ∉ (l[i] :: (l.drop (i + 1)).take m).map It.id) (hm : i + m < l.length) : validC (l.take i ++ l.drop (i + 1 + m)) = true := by
 obtain ⟨⟨t, h0⟩, hlen⟩ := (valid_go l).1 hv
 have h0' := h0
 rw [three l (m := m) hi] at h0'
 obtain ⟨s, h1, h2⟩ := goW_split h0'
 obtain ⟨t', q1, _⟩ := take_out (goW_open open0 h1) h2 ht (fun b B' hb => by
  have hlt : i + m + 1 < l.length := by
   have : (l.drop (i + 1 + m)).length = (b :: B').length := by rw [hb]
   rw [List.length_drop, List.length_cons] at this
   omega
  have h6 : l.drop (i + 1 + m) = l[i + m + 1] :: l.drop (i + m + 1 + 1) := by
   rw [show i + 1 + m = i + m + 1 by omega]
   exact List.drop_eq_getElem_cons hlt
  rw [h6] at hb
  injection hb with hb _
  rw [← hb]
  exact hB hlt)
 refine (valid_go _).2 ⟨⟨t', goW_join h1 q1⟩, ?_⟩
 rw [List.length_append, List.length_take, List.length_drop]
 omega
end Dg
namespace Dg
def insA (a x : ByteArray) : List ByteArray → List ByteArray
 | [] => [x]
 | k :: r => if k = a then k :: x :: r else k :: insA a x r
def insK (a x : ByteArray) (ks : List ByteArray) : List ByteArray := if a = nil8 then x :: ks else insA a x ks
theorem insA_at (a x : ByteArray) : ∀ (pre post : List ByteArray), a ∉ pre → insA a x (pre ++ a :: post) = pre ++ a :: x :: post
 | [], post, _ => by rw [List.nil_append, insA, if_pos rfl]; rfl
 | k :: pre, post, h => by
  have hk : ¬ k = a := fun e => by subst e; exact h (List.mem_cons_self ..)
  rw [List.cons_append, insA, if_neg hk, insA_at a x pre post (fun hm => h (List.mem_cons_of_mem _ hm))]
  rfl
def outK (x : ByteArray) (ks : List ByteArray) : List ByteArray := ks.filter fun d => decide (d ≠ x)
theorem outK_not {x : ByteArray} {ks : List ByteArray} (h : x ∉ ks) : outK x ks = ks := List.filter_eq_self.2 fun _ hd => decide_eq_true fun e => h (e ▸ hd)
theorem kids_tree {x : It} {R : List It} {q : ByteArray} (ht : treeT x R) (hq : q ∉ (x :: R).map It.id) : kids (x :: R) q = if x.parent = q then [x.id] else [] := by
 have hR : kids R q = [] := kids_none fun y hy e => hq (e ▸ ht y hy)
 by_cases h : x.parent = q
 ·rw [kids_cons_yes _ h, hR, if_pos h]
 ·rw [kids_cons_no _ h, hR, if_neg h]
theorem parent_ahead {l : List It} (hv : validC l = true) {k : Nat} (hk : k < l.length) : l[k].parent = nil8 ∨ ∃ j, ∃ hj : j < k, l[j].id = l[k].parent := by
 obtain ⟨s, hw, _⟩ := valid_walk hv
 rcases parent_open (Nat.le_refl _) hw hk with ⟨e, _⟩ | ⟨_, j, _, hj, e, _⟩
 ·exact Or.inl e
 ·exact Or.inr ⟨j, hj, e⟩
theorem kids_foreign {l : List It} (hv : validC l = true) {q : ByteArray} (hne : q ≠ nil8) (hq : q ∉ l.map It.id) : kids l q = [] := kids_none fun y hy e => by
 obtain ⟨k, hk, rfl⟩ := List.mem_iff_getElem.1 hy
 rcases parent_ahead hv hk with h | ⟨j, hj, h⟩
 ·exact hne (e ▸ h)
 ·exact hq (e ▸ h ▸ List.mem_map.2 ⟨l[j], List.getElem_mem _, rfl⟩)
theorem ids_nodup {l : List It} (hv : validC l = true) : (l.map It.id).Nodup := by
 obtain ⟨⟨t, ht⟩, _⟩ := (valid_go l).1 hv
 exact (goW_new ht).2
theorem id_inj {l : List It} (hv : validC l = true) {i j : Nat} (hi : i < l.length) (hj : j < l.length) (e : l[i].id = l[j].id) : i = j :=
 nd_inj (ids_nodup hv) (by rw [List.length_map]; exact hi) (by rw [List.length_map]; exact hj) (by rw [List.getElem_map, List.getElem_map]; exact e)
theorem kids_before {l : List It} (hv : validC l = true) {j : Nat} (hj : j < l.length) : kids (l.take (j + 1)) l[j].id = [] := kids_none fun y hy e => by
 obtain ⟨k, hk, rfl⟩ := List.mem_iff_getElem.1 hy
 rw [List.length_take] at hk
 rw [List.getElem_take] at e
 have hkl : k < l.length := by omega
 rcases parent_ahead hv hkl with h | ⟨i, hi, h⟩
 ·rw [e] at h
  exact name_ne (proper_name (valid_proper hv _ (List.getElem_mem hj))) h
 ·have := id_inj hv (i := i) (j := j) (by omega) hj (h.trans e)
  omega
theorem mem_kids {l : List It} {q d : ByteArray} : d ∈ kids l q ↔ ∃ x ∈ l, x.parent = q ∧ x.id = d := by
 unfold kids
 rw [List.mem_map]
 constructor
 ·rintro ⟨x, hx, e⟩
  obtain ⟨h1, h2⟩ := List.mem_filter.1 hx
  exact ⟨x, h1, of_decide_eq_true h2, e⟩
 ·rintro ⟨x, h1, h2, e⟩
  exact ⟨x, List.mem_filter.2 ⟨h1, decide_eq_true h2⟩, e⟩
theorem kids_remove {l : List It} (hv : validC l = true) {i m : Nat} (hi : i < l.length) (ht : treeT l[i] ((l.drop (i + 1)).take m)) {q : ByteArray} (hq : q ∉ (l[i] :: (l.drop (i + 1)).take m).map It.id) : kids (l.take i ++ l.drop (i + 1 + m)) q = outK l[i].id (kids l q) := by
 have h3 : kids l q = kids (l.take i) q ++ ((if l[i].parent = q then [l[i].id] else []) ++ kids (l.drop (i + 1 + m)) q) := by
  conv => lhs; rw [three l (m := m) hi]
  rw [kids_append, kids_append, kids_tree ht hq]
 have hpre : l[i].id ∉ kids (l.take i) q := fun h => by
  obtain ⟨x, hx, _, e⟩ := mem_kids.1 h
  obtain ⟨k, hk, rfl⟩ := List.mem_iff_getElem.1 hx
  rw [List.length_take] at hk
  rw [List.getElem_take] at e
  have := id_inj hv (by omega) hi e
  omega
 have hpost : l[i].id ∉ kids (l.drop (i + 1 + m)) q := fun h => by
  obtain ⟨x, hx, _, e⟩ := mem_kids.1 h
  obtain ⟨k, hk, rfl⟩ := List.mem_iff_getElem.1 hx
  rw [List.length_drop] at hk
  rw [List.getElem_drop] at e
  have := id_inj hv (i := i + 1 + m + k) (by omega) hi e
  omega
 rw [kids_append, h3]
 have e1 : outK l[i].id (if l[i].parent = q then [l[i].id] else []) = [] := by
  unfold outK
  split
  ·simp
  ·rfl
 have e2 : ∀ a b : List ByteArray, outK l[i].id (a ++ b) = outK l[i].id a ++ outK l[i].id b := fun a b => List.filter_append ..
 rw [e2, e2, e1, outK_not hpre, outK_not hpost, List.nil_append]
theorem kids_lay {l : List It} {a : Nat} {x : It} {R : List It} (ht : treeT x R) {q : ByteArray} (hq : q ∉ (x :: R).map It.id) : kids (l.take a ++ ((x :: R) ++ l.drop a)) q = kids (l.take a) q ++ ((if x.parent = q then [x.id] else []) ++ kids (l.drop a) q) := by
 rw [kids_append, kids_append, kids_tree ht hq]
theorem kids_cut (l : List It) (a : Nat) (q : ByteArray) : kids (l.take a) q ++ kids (l.drop a) q = kids l q := by rw [← kids_append, List.take_append_drop]
theorem kids_upto {l : List It} (hv : validC l = true) {j m : Nat} (hj : j < l.length) (ht : treeT l[j] ((l.drop (j + 1)).take m)) : ∃ pre, kids (l.take (j + 1 + m)) l[j].parent = pre ++ [l[j].id] ∧ l[j].id ∉ pre := by
 have e : l.take (j + 1 + m) = l.take j ++ (l[j] :: (l.drop (j + 1)).take m) := by
  rw [List.take_add, List.take_succ_eq_append_getElem hj, List.append_assoc]; rfl
 have hq : l[j].parent ∉ (l[j] :: (l.drop (j + 1)).take m).map It.id := fun h => by
  obtain ⟨y, hy, ey⟩ := List.mem_map.1 h
  rcases parent_ahead hv hj with h0 | ⟨i, hi, h0⟩
  ·rw [h0] at ey
   have hyl : y ∈ l := by
    rcases List.mem_cons.1 hy with rfl | hy
    ·exact List.getElem_mem hj
    ·exact List.mem_of_mem_drop (List.mem_of_mem_take hy)
   exact name_ne (proper_name (valid_proper hv y hyl)) ey
  ·rcases List.mem_cons.1 hy with rfl | hy
   ·have := id_inj hv (i := i) (j := j) (by omega) hj (h0.trans ey.symm)
    omega
   ·obtain ⟨t, ht', rfl⟩ := List.mem_iff_getElem.1 hy
    rw [List.length_take, List.length_drop] at ht'
    rw [List.getElem_take, List.getElem_drop] at ey
    have := id_inj hv (i := i) (j := j + 1 + t) (by omega) (by omega) (h0.trans ey.symm)
    omega
 refine ⟨kids (l.take j) l[j].parent, by rw [e, kids_append, kids_tree ht hq, if_pos rfl], fun h => ?_⟩
 obtain ⟨y, hy, _, ey⟩ := mem_kids.1 h
 obtain ⟨k, hk, rfl⟩ := List.mem_iff_getElem.1 hy
 rw [List.length_take] at hk
 rw [List.getElem_take] at ey
 have := id_inj hv (by omega) hj ey
 omega
end Dg
namespace Dg
def cutC (l : List It) (i m : Nat) : List It := l.take i ++ l.drop (i + 1 + m)
theorem three_nodup {l : List It} (hv : validC l = true) {i m : Nat} (hi : i < l.length) : ∀ y ∈ l[i] :: (l.drop (i + 1)).take m, ∀ z ∈ cutC l i m, y.id ≠ z.id := fun y hy z hz e => by
 have hn := ids_nodup hv
 rw [three l (m := m) hi, List.map_append, List.map_append] at hn
 obtain ⟨_, h2, h3⟩ := List.nodup_append.1 hn
 obtain ⟨_, _, h5⟩ := List.nodup_append.1 h2
 rcases List.mem_append.1 hz with h | h
 ·exact h3 _ (List.mem_map.2 ⟨z, h, rfl⟩) _ (List.mem_append.2 (Or.inl (List.mem_map.2 ⟨y, hy, rfl⟩))) e.symm
 ·exact h5 _ (List.mem_map.2 ⟨y, hy, rfl⟩) _ (List.mem_map.2 ⟨z, h, rfl⟩) e
theorem move_valid {l : List It} (hv : validC l = true) {i m : Nat} (hi : i < l.length) (hm : i + m < l.length) (ht : treeT l[i] ((l.drop (i + 1)).take m)) (hB : ∀ h : i + m + 1 < l.length, l[i + m + 1].parent ∉ (l[i] :: (l.drop (i + 1)).take m).map It.id)
  {x' : It} (hid : x'.id = l[i].id) (hkd : x'.kind = l[i].kind) (hpr : properI x' = true) {a n : Nat} {s' : Wk} (h1 : goW wk0 ((cutC l i m).take a) = some s') (hk : kOf s'.op x'.parent = some n) (hsh : shallow s'.op n ((cutC l i m).drop a)) :
  validC ((cutC l i m).take a ++ ((x' :: (l.drop (i + 1)).take m) ++ (cutC l i m).drop a)) = true ∧ treeT x' ((l.drop (i + 1)).take m) := by
 have hv1 : validC (cutC l i m) = true := remove_valid hv hi ht hB hm
 obtain ⟨⟨t, h0⟩, hlen⟩ := (valid_go l).1 hv
 rw [three l (m := m) hi] at h0
 obtain ⟨s, g1, g2⟩ := goW_split h0
 obtain ⟨u, g3, _⟩ := goW_split g2
 have hdis := three_nodup hv (m := m) hi
 have hids : (x' :: (l.drop (i + 1)).take m).map It.id = (l[i] :: (l.drop (i + 1)).take m).map It.id := by rw [List.map_cons, List.map_cons, hid]
 obtain ⟨u', q1, q2⟩ := tree_moved (goW_open open0 g1) (goW_open open0 h1) g3 ht hid hkd hpr hk (fun y hy hs => by
  rw [goW_seen h1] at hs
  rcases List.mem_append.1 hs with h | h
  ·obtain ⟨z, hz, e⟩ := List.mem_map.1 (List.mem_reverse.1 h)
   exact hdis y hy z (List.mem_of_mem_take hz) e.symm
  ·cases h)
 refine ⟨insert_valid hv1 h1 hk hsh q1 q2 (fun y hy hmm => ?_) ?_, q2⟩
 ·rw [hids] at hmm
  obtain ⟨z, hz, e⟩ := List.mem_map.1 hmm
  exact hdis z hz y (List.mem_of_mem_drop hy) e
 ·unfold cutC
  rw [List.length_append, List.length_take, List.length_drop, List.length_cons, List.length_take, List.length_drop]
  omega
theorem new_valid {l : List It} (hv : validC l = true) {x : It} (hpr : properI x = true) (hnew : x.id ∉ l.map It.id) {a n : Nat} {s : Wk} (h1 : goW wk0 (l.take a) = some s) (hk : kOf s.op x.parent = some n) (hsh : shallow s.op n (l.drop a)) (hlen : l.length < 2000) : validC (l.take a ++ ([x] ++ l.drop a)) = true ∧ treeT x [] := by
 have ht : treeT x [] := fun y hy => by cases hy
 have hs : x.id ∉ s.seen := fun h => by
  rw [goW_seen h1] at h
  rcases List.mem_append.1 h with h | h
  ·obtain ⟨z, hz, e⟩ := List.mem_map.1 (List.mem_reverse.1 h)
   exact hnew (List.mem_map.2 ⟨z, List.mem_of_mem_take hz, e⟩)
  ·cases h
 refine ⟨insert_valid hv h1 hk hsh (u := ⟨x.id :: s.seen, if x.kind = 1 then s.op.take n ++ [x.id] else s.op.take n⟩) ?_ ht (fun y hy hmm => ?_) ?_, ht⟩
 ·rw [goW]
  unfold stepI
  rw [if_pos ⟨hpr, (inB_no _ _).2 hs⟩, hk]
  rfl
 ·rw [List.map_singleton] at hmm
  exact hnew (by rw [← List.mem_singleton.1 hmm]; exact List.mem_map.2 ⟨y, List.mem_of_mem_drop hy, rfl⟩)
 ·rw [List.length_singleton]; omega
end Dg
namespace Dg
theorem set_valid {l : List It} (hv : validC l = true) {k : Nat} (hk : k < l.length) {y : It} (hl : likeI l[k] y) : validC (l.set k y) = true :=
 valid_like (by rw [List.length_set]) (fun j h1 h2 => by
  rw [List.getElem_set]
  split
  ·rename_i e
   subst e
   exact hl
  ·exact like_refl _) hv
theorem kids_set {l : List It} {k : Nat} (hk : k < l.length) {y : It} (hid : y.id = l[k].id) (hp : y.parent = l[k].parent) (q : ByteArray) : kids (l.set k y) q = kids l q := by
 have e : l.set k y = l.take k ++ y :: l.drop (k + 1) := by rw [List.set_eq_take_append_cons_drop, if_pos hk]
 have e2 : l = l.take k ++ l[k] :: l.drop (k + 1) := by rw [← List.drop_eq_getElem_cons hk, List.take_append_drop]
 rw [e, kids_append]
 conv => rhs; rw [e2, kids_append]
 congr 1
 by_cases h : y.parent = q
 ·rw [kids_cons_yes _ h, kids_cons_yes _ (hp ▸ h), hid]
 ·rw [kids_cons_no _ h, kids_cons_no _ (hp ▸ h)]
end Dg
namespace Dg
structure Pt where
 kind : Int
 id : ByteArray
 parent : ByteArray
 after : ByteArray
 number : ByteArray
 item : It
 lang : Int
 src : ByteArray
 dst : ByteArray
def zeroI : It := ⟨0, nil8, nil8, nil8, nil8, nil8, false⟩
deriving instance DecidableEq for It
deriving instance DecidableEq for Pt
def barePt (k : Int) (id : ByteArray) : Pt := ⟨k, id, nil8, nil8, nil8, zeroI, 0, nil8, nil8⟩
def sDd : ByteArray := ⟨#[100]⟩
def formedP (p : Pt) : Bool :=
 if p.kind = 1 then decide (p = { barePt p.kind p.id with parent := p.parent, after := p.after, item := p.item }) && (decide (p.item.id = p.id) && (decide (p.item.parent = p.parent) && validC [{ p.item with parent := nil8 }]))
 else if p.kind = 3 then decide (p = { barePt p.kind p.id with number := p.number }) && validC [⟨1, sDd, nil8, p.number, nil8, nil8, false⟩]
 else if p.kind = 4 then decide (p = { barePt p.kind p.id with parent := p.parent, after := p.after })
 else if p.kind = 5 ∨ p.kind = 6 then decide (p = barePt p.kind p.id)
 else if p.kind = 7 then decide (p = { barePt p.kind p.id with item := { zeroI with north := p.item.north, south := p.item.south } })
 else false
def idxI (l : List It) (d : ByteArray) : Option Nat := l.findIdx? (fun x => decide (x.id = d))
def itemA (l : List It) (d : ByteArray) : It := match idxI l d with
 | some i => l.getD i zeroI
 | none => zeroI
def belowN (l : List It) (d : ByteArray) : Nat := (visits l).countP fun o => inB o d
def underN (l : List It) (d dv : ByteArray) : Bool := match idxI l d with
 | some i => decide (dv = nil8) || inB ((visits l).getD i []) dv
 | none => false
def existsP (l : List It) (p : Pt) : Bool :=
 (decide (p.parent = nil8) || decide ((itemA l p.parent).kind = 1)) && (decide (p.after = nil8) || (!(decide ((itemA l p.after).kind = 0)) && decide ((itemA l p.after).parent = p.parent)))
def placeP (l : List It) (p : Pt) : Nat :=
 if p.after ≠ nil8 then (idxI l p.after).getD 0 + (1 + belowN l p.after) else if p.parent ≠ nil8 then (idxI l p.parent).getD 0 + 1 else 0
def putP (l : List It) (p : Pt) (xs : List It) : List It := l.take (placeP l p) ++ (xs ++ l.drop (placeP l p))
def insertP (l : List It) (p : Pt) : List It × Int :=
 if (idxI l p.id).isSome then ([], 9) else if existsP l p = false then ([], 14) else if 2000 ≤ l.length then ([], 2) else (putP l p [p.item], 0)
def moveP (l : List It) (p : Pt) (i : Nat) (y : It) : List It × Int :=
 if existsP l p = false ∨ p.parent = p.id ∨ p.after = p.id ∨ (p.parent ≠ nil8 ∧ underN l p.parent p.id = true) then ([], 14)
 else (putP (cutC l i (belowN l p.id)) p ({ y with parent := p.parent } :: (l.drop (i + 1)).take (belowN l p.id)), 0)
def applyP (l : List It) (p : Pt) : List It × Int :=
 if validC l = false ∨ formedP p = false then ([], 1)
 else if p.kind = 1 then insertP l p
 else match idxI l p.id with
  | none => ([], 11)
  | some i =>
   let y := l.getD i zeroI
   if y.kind = 1 ∧ p.kind ≠ 3 ∧ p.kind ≠ 4 then ([], 11)
   else if p.kind = 6 ∧ y.gone = false then ([], 12)
   else if p.kind ≠ 6 ∧ y.gone = true then ([], 16)
   else if p.kind = 3 then (l.set i { y with number := p.number }, 0)
   else if p.kind = 4 then moveP l p i y
   else if p.kind = 7 then (if 400 < p.item.north.size ∨ 400 < p.item.south.size then ([], 2) else (l.set i { y with north := p.item.north, south := p.item.south }, 0))
   else (l.set i { y with gone := decide (p.kind = 5) }, 0)
theorem idxI_at {l : List It} (hv : validC l = true) {i : Nat} (hi : i < l.length) : idxI l l[i].id = some i := by
 unfold idxI
 rw [List.findIdx?_eq_some_iff_getElem]
 refine ⟨hi, decide_eq_true rfl, fun j hj => ?_⟩
 have hne : l[j].id ≠ l[i].id := fun e => by have := id_inj hv (by omega) hi e; omega
 simpa using hne
theorem idxI_some {l : List It} {d : ByteArray} {i : Nat} (h : idxI l d = some i) : ∃ hi : i < l.length, l[i].id = d := by
 unfold idxI at h
 obtain ⟨hi, h1, _⟩ := List.findIdx?_eq_some_iff_getElem.1 h
 exact ⟨hi, by simpa using h1⟩
theorem idxI_none {l : List It} {d : ByteArray} (h : idxI l d = none) : ∀ x ∈ l, x.id ≠ d := fun x hx => by
 have := List.findIdx?_eq_none_iff.1 h x hx
 simpa using this
theorem belowN_tree {l : List It} (hv : validC l = true) {i : Nat} (hi : i < l.length) {m : Nat} (hm : i + m < l.length) (hb : ∀ k, k < l.length → ∀ o, (visits l)[k]? = some o → (l[i].id ∈ o ↔ i < k ∧ k ≤ i + m)) : belowN l l[i].id = m := by
 obtain ⟨s, hw, _⟩ := valid_walk hv
 have hvl := walk_len (Nat.le_refl _) hw
 unfold belowN
 have h1 : ∀ k (hk : k < (visits l).length), (inB (visits l)[k] l[i].id) = decide (i < k ∧ k ≤ i + m) := fun k hk => by
  have h2 := hb k (by omega) (visits l)[k] (List.getElem?_eq_getElem hk)
  cases h3 : inB (visits l)[k] l[i].id with
  | true => exact (decide_eq_true (h2.1 ((inB_iff _ _).1 h3))).symm
  | false => exact (decide_eq_false (fun h => (inB_no _ _).1 h3 (h2.2 h))).symm
 have h4 : (visits l).countP (fun o => inB o l[i].id) = (List.range (visits l).length).countP (fun k => decide (i < k ∧ k ≤ i + m)) := by
  have e : visits l = (List.range (visits l).length).map (fun k => (visits l).getD k []) := by
   apply List.ext_getElem
   ·simp
   ·intro k h1 h2
    simp [List.getD_eq_getElem?_getD, h1]
  conv => lhs; rw [e]
  rw [List.countP_map]
  apply List.countP_congr
  intro k hk
  have hk' : k < (visits l).length := List.mem_range.1 hk
  simp only [Function.comp]
  rw [List.getD_eq_getElem?_getD, List.getElem?_eq_getElem hk', Option.getD_some, h1 k hk']
 rw [h4]
 have h5 : ∀ n, i + m < n → (List.range n).countP (fun k => decide (i < k ∧ k ≤ i + m)) = m := by
  intro n hn
  have h6 : ∀ q, (List.range q).countP (fun k => decide (i < k ∧ k ≤ i + m)) = min (q - (i + 1)) m := by
   intro q
   induction q with
   | zero => simp
   | succ q ih =>
    rw [List.range_succ, List.countP_append, ih, List.countP_singleton]
    by_cases hq : i < q ∧ q ≤ i + m
    ·rw [decide_eq_true hq, if_pos rfl]; omega
    ·rw [decide_eq_false hq, if_neg (by decide)]; omega
  rw [h6 n]
  omega
 exact h5 _ (by omega)
end Dg
inductive Rw where
 | Rq0 (p : Dg.Pt)
 | Rq1
 | Rq2
 | Rq3
 | Rq4 (p : Dg.It)
 | Rq5 (A : Option Addr) (n c : Nat) (p : Dg.Pt) (i : Int)
 | Rq6 (b o n c : Nat) (p : Dg.Pt) (i : Int)
 | Rq7 (p : Dg.Pt)
 | Rq8 (p : Dg.Pt)
 | Rq9 (p : Dg.Pt)
 | Rq10 (p : Dg.Pt)
 | Rq11 (p : Dg.Pt)
 | Rq12 (p : Dg.Pt)
 | Rq13 (p : Dg.Pt)
 | Rq14 (p : Dg.It)
 | Rq15
 | Rq16
 | Rq17
 | Rq18 (p : Dg.Pt)
 | Rq19 (p : Dg.Pt)
 | Rq20 (p : Dg.Pt)
 | Rq21 (p q : Dg.Pt)
 | Rq22
 | Rq23
 | Rq24
instance (p : Dg.Pt) : CoeDep Rw (.Rq0 p) (Array Value) := ⟨#[.int .i64 p.kind, .string p.id, .string p.parent, .string p.after, .string p.number, .int .i64 p.item.kind, .string p.item.id, .string p.item.parent, .string p.item.number, .string p.item.north, .string p.item.south, .bool p.item.gone, .int .i64 p.lang, .string p.src, .string p.dst]⟩
instance (p : Dg.Pt) : CoeDep Rw (.Rq0 p) (List Value) := ⟨[.int .i64 p.kind, .string p.id, .string p.parent, .string p.after, .string p.number, .int .i64 p.item.kind, .string p.item.id, .string p.item.parent, .string p.item.number, .string p.item.north, .string p.item.south, .bool p.item.gone, .int .i64 p.lang, .string p.src, .string p.dst]⟩
instance : CoeDep Rw (.Rq1) (Array Value) := ⟨#[.int .i64 0, .string ⟨#[]⟩, .string ⟨#[]⟩, .string ⟨#[]⟩, .string ⟨#[]⟩, .string ⟨#[]⟩, .bool false]⟩
instance : CoeDep Rw (.Rq1) (List Value) := ⟨[.int .i64 0, .string ⟨#[]⟩, .string ⟨#[]⟩, .string ⟨#[]⟩, .string ⟨#[]⟩, .string ⟨#[]⟩, .bool false]⟩
instance : CoeDep Rw (.Rq2) (Array Value) := ⟨#[.int .i64 0, .string ⟨#[]⟩, .string ⟨#[]⟩, .string ⟨#[]⟩, .string ⟨#[]⟩, .int .i64 0, .string ⟨#[]⟩, .string ⟨#[]⟩, .string ⟨#[]⟩, .string ⟨#[]⟩, .string ⟨#[]⟩, .bool false, .int .i64 0, .string ⟨#[]⟩, .string ⟨#[]⟩]⟩
instance : CoeDep Rw (.Rq2) (List Value) := ⟨[.int .i64 0, .string ⟨#[]⟩, .string ⟨#[]⟩, .string ⟨#[]⟩, .string ⟨#[]⟩, .int .i64 0, .string ⟨#[]⟩, .string ⟨#[]⟩, .string ⟨#[]⟩, .string ⟨#[]⟩, .string ⟨#[]⟩, .bool false, .int .i64 0, .string ⟨#[]⟩, .string ⟨#[]⟩]⟩
instance : CoeDep Rw (.Rq3) (Array Value) := ⟨#[.slice none 0 0]⟩
instance : CoeDep Rw (.Rq3) (List Value) := ⟨[.slice none 0 0]⟩
instance (p : Dg.It) : CoeDep Rw (.Rq4 p) (Array Value) := ⟨#[.int .i64 p.kind, .string p.id, .string p.parent, .string p.number, .string p.north, .string p.south, .bool p.gone]⟩
instance (p : Dg.It) : CoeDep Rw (.Rq4 p) (List Value) := ⟨[.int .i64 p.kind, .string p.id, .string p.parent, .string p.number, .string p.north, .string p.south, .bool p.gone]⟩
instance (A : Option Addr) (n c : Nat) (p : Dg.Pt) (i : Int) : CoeDep Rw (.Rq5 A n c p i) (Array Value) := ⟨#[.slice A n c, .int .i64 p.kind, .string p.id, .string p.parent, .string p.after, .string p.number, .int .i64 p.item.kind, .string p.item.id, .string p.item.parent, .string p.item.number, .string p.item.north, .string p.item.south, .bool p.item.gone, .int .i64 p.lang, .string p.src, .string p.dst, .int .i64 i]⟩
instance (A : Option Addr) (n c : Nat) (p : Dg.Pt) (i : Int) : CoeDep Rw (.Rq5 A n c p i) (List Value) := ⟨[.slice A n c, .int .i64 p.kind, .string p.id, .string p.parent, .string p.after, .string p.number, .int .i64 p.item.kind, .string p.item.id, .string p.item.parent, .string p.item.number, .string p.item.north, .string p.item.south, .bool p.item.gone, .int .i64 p.lang, .string p.src, .string p.dst, .int .i64 i]⟩
instance (b o n c : Nat) (p : Dg.Pt) (i : Int) : CoeDep Rw (.Rq6 b o n c p i) (Array Value) := ⟨#[.slice (some ⟨b, o, none⟩) n c, .int .i64 p.kind, .string p.id, .string p.parent, .string p.after, .string p.number, .int .i64 p.item.kind, .string p.item.id, .string p.item.parent, .string p.item.number, .string p.item.north, .string p.item.south, .bool p.item.gone, .int .i64 p.lang, .string p.src, .string p.dst, .int .i64 i]⟩
instance (b o n c : Nat) (p : Dg.Pt) (i : Int) : CoeDep Rw (.Rq6 b o n c p i) (List Value) := ⟨[.slice (some ⟨b, o, none⟩) n c, .int .i64 p.kind, .string p.id, .string p.parent, .string p.after, .string p.number, .int .i64 p.item.kind, .string p.item.id, .string p.item.parent, .string p.item.number, .string p.item.north, .string p.item.south, .bool p.item.gone, .int .i64 p.lang, .string p.src, .string p.dst, .int .i64 i]⟩
instance (p : Dg.Pt) : CoeDep Rw (.Rq7 p) (Array Value) := ⟨#[.int .i64 p.kind, .string p.id, .string ⟨#[]⟩, .string ⟨#[]⟩, .string ⟨#[]⟩, .int .i64 0, .string ⟨#[]⟩, .string ⟨#[]⟩, .string ⟨#[]⟩, .string ⟨#[]⟩, .string ⟨#[]⟩, .bool false, .int .i64 0, .string ⟨#[]⟩, .string ⟨#[]⟩]⟩
instance (p : Dg.Pt) : CoeDep Rw (.Rq7 p) (List Value) := ⟨[.int .i64 p.kind, .string p.id, .string ⟨#[]⟩, .string ⟨#[]⟩, .string ⟨#[]⟩, .int .i64 0, .string ⟨#[]⟩, .string ⟨#[]⟩, .string ⟨#[]⟩, .string ⟨#[]⟩, .string ⟨#[]⟩, .bool false, .int .i64 0, .string ⟨#[]⟩, .string ⟨#[]⟩]⟩
instance (p : Dg.Pt) : CoeDep Rw (.Rq8 p) (Array Value) := ⟨#[.int .i64 p.kind, .string p.id, .string ⟨#[]⟩, .string ⟨#[]⟩, .string p.number, .int .i64 0, .string ⟨#[]⟩, .string ⟨#[]⟩, .string ⟨#[]⟩, .string ⟨#[]⟩, .string ⟨#[]⟩, .bool false, .int .i64 0, .string ⟨#[]⟩, .string ⟨#[]⟩]⟩
instance (p : Dg.Pt) : CoeDep Rw (.Rq8 p) (List Value) := ⟨[.int .i64 p.kind, .string p.id, .string ⟨#[]⟩, .string ⟨#[]⟩, .string p.number, .int .i64 0, .string ⟨#[]⟩, .string ⟨#[]⟩, .string ⟨#[]⟩, .string ⟨#[]⟩, .string ⟨#[]⟩, .bool false, .int .i64 0, .string ⟨#[]⟩, .string ⟨#[]⟩]⟩
instance (p : Dg.Pt) : CoeDep Rw (.Rq9 p) (Array Value) := ⟨#[.int .i64 p.kind, .string p.id, .string p.parent, .string ⟨#[]⟩, .string ⟨#[]⟩, .int .i64 0, .string ⟨#[]⟩, .string ⟨#[]⟩, .string ⟨#[]⟩, .string ⟨#[]⟩, .string ⟨#[]⟩, .bool false, .int .i64 0, .string ⟨#[]⟩, .string ⟨#[]⟩]⟩
instance (p : Dg.Pt) : CoeDep Rw (.Rq9 p) (List Value) := ⟨[.int .i64 p.kind, .string p.id, .string p.parent, .string ⟨#[]⟩, .string ⟨#[]⟩, .int .i64 0, .string ⟨#[]⟩, .string ⟨#[]⟩, .string ⟨#[]⟩, .string ⟨#[]⟩, .string ⟨#[]⟩, .bool false, .int .i64 0, .string ⟨#[]⟩, .string ⟨#[]⟩]⟩
instance (p : Dg.Pt) : CoeDep Rw (.Rq10 p) (Array Value) := ⟨#[.int .i64 p.kind, .string p.id, .string p.parent, .string p.after, .string ⟨#[]⟩, .int .i64 0, .string ⟨#[]⟩, .string ⟨#[]⟩, .string ⟨#[]⟩, .string ⟨#[]⟩, .string ⟨#[]⟩, .bool false, .int .i64 0, .string ⟨#[]⟩, .string ⟨#[]⟩]⟩
instance (p : Dg.Pt) : CoeDep Rw (.Rq10 p) (List Value) := ⟨[.int .i64 p.kind, .string p.id, .string p.parent, .string p.after, .string ⟨#[]⟩, .int .i64 0, .string ⟨#[]⟩, .string ⟨#[]⟩, .string ⟨#[]⟩, .string ⟨#[]⟩, .string ⟨#[]⟩, .bool false, .int .i64 0, .string ⟨#[]⟩, .string ⟨#[]⟩]⟩
instance (p : Dg.Pt) : CoeDep Rw (.Rq11 p) (Array Value) := ⟨#[.int .i64 p.kind, .string p.id, .string ⟨#[]⟩, .string ⟨#[]⟩, .string ⟨#[]⟩, .int .i64 0, .string ⟨#[]⟩, .string ⟨#[]⟩, .string ⟨#[]⟩, .string p.item.north, .string ⟨#[]⟩, .bool false, .int .i64 0, .string ⟨#[]⟩, .string ⟨#[]⟩]⟩
instance (p : Dg.Pt) : CoeDep Rw (.Rq11 p) (List Value) := ⟨[.int .i64 p.kind, .string p.id, .string ⟨#[]⟩, .string ⟨#[]⟩, .string ⟨#[]⟩, .int .i64 0, .string ⟨#[]⟩, .string ⟨#[]⟩, .string ⟨#[]⟩, .string p.item.north, .string ⟨#[]⟩, .bool false, .int .i64 0, .string ⟨#[]⟩, .string ⟨#[]⟩]⟩
instance (p : Dg.Pt) : CoeDep Rw (.Rq12 p) (Array Value) := ⟨#[.int .i64 p.kind, .string p.id, .string ⟨#[]⟩, .string ⟨#[]⟩, .string ⟨#[]⟩, .int .i64 0, .string ⟨#[]⟩, .string ⟨#[]⟩, .string ⟨#[]⟩, .string p.item.north, .string p.item.south, .bool false, .int .i64 0, .string ⟨#[]⟩, .string ⟨#[]⟩]⟩
instance (p : Dg.Pt) : CoeDep Rw (.Rq12 p) (List Value) := ⟨[.int .i64 p.kind, .string p.id, .string ⟨#[]⟩, .string ⟨#[]⟩, .string ⟨#[]⟩, .int .i64 0, .string ⟨#[]⟩, .string ⟨#[]⟩, .string ⟨#[]⟩, .string p.item.north, .string p.item.south, .bool false, .int .i64 0, .string ⟨#[]⟩, .string ⟨#[]⟩]⟩
instance (p : Dg.Pt) : CoeDep Rw (.Rq13 p) (Array Value) := ⟨#[.int .i64 p.kind, .string p.id, .string p.parent, .string p.after, .string ⟨#[]⟩, .int .i64 p.item.kind, .string p.item.id, .string p.item.parent, .string p.item.number, .string p.item.north, .string p.item.south, .bool p.item.gone, .int .i64 0, .string ⟨#[]⟩, .string ⟨#[]⟩]⟩
instance (p : Dg.Pt) : CoeDep Rw (.Rq13 p) (List Value) := ⟨[.int .i64 p.kind, .string p.id, .string p.parent, .string p.after, .string ⟨#[]⟩, .int .i64 p.item.kind, .string p.item.id, .string p.item.parent, .string p.item.number, .string p.item.north, .string p.item.south, .bool p.item.gone, .int .i64 0, .string ⟨#[]⟩, .string ⟨#[]⟩]⟩
instance (p : Dg.It) : CoeDep Rw (.Rq14 p) (Array Value) := ⟨#[.int .i64 p.kind, .string p.id, .string ⟨#[]⟩, .string p.number, .string p.north, .string p.south, .bool p.gone]⟩
instance (p : Dg.It) : CoeDep Rw (.Rq14 p) (List Value) := ⟨[.int .i64 p.kind, .string p.id, .string ⟨#[]⟩, .string p.number, .string p.north, .string p.south, .bool p.gone]⟩
instance : CoeDep Rw (.Rq15) (Array Value) := ⟨#[.slice none 0 0, .int .i64 0, .string ⟨#[]⟩, .string ⟨#[]⟩, .string ⟨#[]⟩, .string ⟨#[]⟩, .int .i64 0, .string ⟨#[]⟩, .string ⟨#[]⟩, .string ⟨#[]⟩, .string ⟨#[]⟩, .string ⟨#[]⟩, .bool false, .int .i64 0, .string ⟨#[]⟩, .string ⟨#[]⟩, .int .i64 0]⟩
instance : CoeDep Rw (.Rq15) (List Value) := ⟨[.slice none 0 0, .int .i64 0, .string ⟨#[]⟩, .string ⟨#[]⟩, .string ⟨#[]⟩, .string ⟨#[]⟩, .int .i64 0, .string ⟨#[]⟩, .string ⟨#[]⟩, .string ⟨#[]⟩, .string ⟨#[]⟩, .string ⟨#[]⟩, .bool false, .int .i64 0, .string ⟨#[]⟩, .string ⟨#[]⟩, .int .i64 0]⟩
instance : CoeDep Rw (.Rq16) (Array Value) := ⟨#[.nilFunc, .func (.func 63) #[] #[], .func (.func 64) #[] #[], .func (.func 65) #[] #[], .func (.func 66) #[] #[], .func (.func 67) #[] #[], .func (.func 67) #[] #[], .func (.func 68) #[] #[]]⟩
instance : CoeDep Rw (.Rq16) (List Value) := ⟨[.nilFunc, .func (.func 63) #[] #[], .func (.func 64) #[] #[], .func (.func 65) #[] #[], .func (.func 66) #[] #[], .func (.func 67) #[] #[], .func (.func 67) #[] #[], .func (.func 68) #[] #[]]⟩
instance : CoeDep Rw (.Rq17) (Array Value) := ⟨#[.int .i64 0, .int .i64 0, .int .i64 0, .int .i64 0, .int .i64 0, .string ⟨#[]⟩, .string ⟨#[]⟩, .string ⟨#[]⟩, .string ⟨#[]⟩, .int .i64 0, .string ⟨#[]⟩, .string ⟨#[]⟩, .string ⟨#[]⟩, .string ⟨#[]⟩, .string ⟨#[]⟩, .bool false, .int .i64 0, .string ⟨#[]⟩, .string ⟨#[]⟩, .bool false]⟩
instance : CoeDep Rw (.Rq17) (List Value) := ⟨[.int .i64 0, .int .i64 0, .int .i64 0, .int .i64 0, .int .i64 0, .string ⟨#[]⟩, .string ⟨#[]⟩, .string ⟨#[]⟩, .string ⟨#[]⟩, .int .i64 0, .string ⟨#[]⟩, .string ⟨#[]⟩, .string ⟨#[]⟩, .string ⟨#[]⟩, .string ⟨#[]⟩, .bool false, .int .i64 0, .string ⟨#[]⟩, .string ⟨#[]⟩, .bool false]⟩
instance (p : Dg.Pt) : CoeDep Rw (.Rq18 p) (Array Value) := ⟨#[.int .i64 p.kind, .string p.id, .string ⟨#[]⟩, .string ⟨#[]⟩, .string ⟨#[]⟩, .int .i64 0, .string ⟨#[]⟩, .string ⟨#[]⟩, .string ⟨#[]⟩, .string ⟨#[]⟩, .string ⟨#[]⟩, .bool false, .int .i64 p.lang, .string ⟨#[]⟩, .string ⟨#[]⟩]⟩
instance (p : Dg.Pt) : CoeDep Rw (.Rq18 p) (List Value) := ⟨[.int .i64 p.kind, .string p.id, .string ⟨#[]⟩, .string ⟨#[]⟩, .string ⟨#[]⟩, .int .i64 0, .string ⟨#[]⟩, .string ⟨#[]⟩, .string ⟨#[]⟩, .string ⟨#[]⟩, .string ⟨#[]⟩, .bool false, .int .i64 p.lang, .string ⟨#[]⟩, .string ⟨#[]⟩]⟩
instance (p : Dg.Pt) : CoeDep Rw (.Rq19 p) (Array Value) := ⟨#[.int .i64 p.kind, .string p.id, .string ⟨#[]⟩, .string ⟨#[]⟩, .string ⟨#[]⟩, .int .i64 0, .string ⟨#[]⟩, .string ⟨#[]⟩, .string ⟨#[]⟩, .string ⟨#[]⟩, .string ⟨#[]⟩, .bool false, .int .i64 p.lang, .string p.src, .string ⟨#[]⟩]⟩
instance (p : Dg.Pt) : CoeDep Rw (.Rq19 p) (List Value) := ⟨[.int .i64 p.kind, .string p.id, .string ⟨#[]⟩, .string ⟨#[]⟩, .string ⟨#[]⟩, .int .i64 0, .string ⟨#[]⟩, .string ⟨#[]⟩, .string ⟨#[]⟩, .string ⟨#[]⟩, .string ⟨#[]⟩, .bool false, .int .i64 p.lang, .string p.src, .string ⟨#[]⟩]⟩
instance (p : Dg.Pt) : CoeDep Rw (.Rq20 p) (Array Value) := ⟨#[.int .i64 p.kind, .string p.id, .string ⟨#[]⟩, .string ⟨#[]⟩, .string ⟨#[]⟩, .int .i64 0, .string ⟨#[]⟩, .string ⟨#[]⟩, .string ⟨#[]⟩, .string ⟨#[]⟩, .string ⟨#[]⟩, .bool false, .int .i64 p.lang, .string p.src, .string p.dst]⟩
instance (p : Dg.Pt) : CoeDep Rw (.Rq20 p) (List Value) := ⟨[.int .i64 p.kind, .string p.id, .string ⟨#[]⟩, .string ⟨#[]⟩, .string ⟨#[]⟩, .int .i64 0, .string ⟨#[]⟩, .string ⟨#[]⟩, .string ⟨#[]⟩, .string ⟨#[]⟩, .string ⟨#[]⟩, .bool false, .int .i64 p.lang, .string p.src, .string p.dst]⟩
instance (p q : Dg.Pt) : CoeDep Rw (.Rq21 p q) (Array Value) := ⟨#[.int .i64 p.kind, .string p.id, .string p.parent, .string p.after, .string p.number, .int .i64 p.item.kind, .string p.item.id, .string p.item.parent, .string p.item.number, .string p.item.north, .string p.item.south, .bool p.item.gone, .int .i64 p.lang, .string p.src, .string p.dst, .int .i64 q.kind, .string q.id, .string q.parent, .string q.after, .string q.number, .int .i64 q.item.kind, .string q.item.id, .string q.item.parent, .string q.item.number, .string q.item.north, .string q.item.south, .bool q.item.gone, .int .i64 q.lang, .string q.src, .string q.dst]⟩
instance (p q : Dg.Pt) : CoeDep Rw (.Rq21 p q) (List Value) := ⟨[.int .i64 p.kind, .string p.id, .string p.parent, .string p.after, .string p.number, .int .i64 p.item.kind, .string p.item.id, .string p.item.parent, .string p.item.number, .string p.item.north, .string p.item.south, .bool p.item.gone, .int .i64 p.lang, .string p.src, .string p.dst, .int .i64 q.kind, .string q.id, .string q.parent, .string q.after, .string q.number, .int .i64 q.item.kind, .string q.item.id, .string q.item.parent, .string q.item.number, .string q.item.north, .string q.item.south, .bool q.item.gone, .int .i64 q.lang, .string q.src, .string q.dst]⟩
instance : CoeDep Rw (.Rq22) (Array Value) := ⟨#[.int .i64 2, .string ⟨#[112, 49]⟩, .string ⟨#[]⟩, .string ⟨#[]⟩, .string ⟨#[]⟩, .string ⟨#[]⟩, .bool false, .int .i64 2, .string ⟨#[112, 50]⟩, .string ⟨#[]⟩, .string ⟨#[]⟩, .string ⟨#[]⟩, .string ⟨#[]⟩, .bool false]⟩
instance : CoeDep Rw (.Rq22) (List Value) := ⟨[.int .i64 2, .string ⟨#[112, 49]⟩, .string ⟨#[]⟩, .string ⟨#[]⟩, .string ⟨#[]⟩, .string ⟨#[]⟩, .bool false, .int .i64 2, .string ⟨#[112, 50]⟩, .string ⟨#[]⟩, .string ⟨#[]⟩, .string ⟨#[]⟩, .string ⟨#[]⟩, .bool false]⟩
instance : CoeDep Rw (.Rq23) (Array Value) := ⟨#[.int .u8 0, .int .u8 0, .bool false, .int .i64 5, .string ⟨#[112, 49]⟩, .string ⟨#[]⟩, .string ⟨#[]⟩, .string ⟨#[]⟩, .int .i64 0, .string ⟨#[]⟩, .string ⟨#[]⟩, .string ⟨#[]⟩, .string ⟨#[]⟩, .string ⟨#[]⟩, .bool false, .int .i64 0, .string ⟨#[]⟩, .string ⟨#[]⟩, .int .u8 1, .int .u8 0, .bool false, .int .i64 5, .string ⟨#[112, 49]⟩, .string ⟨#[]⟩, .string ⟨#[]⟩, .string ⟨#[]⟩, .int .i64 0, .string ⟨#[]⟩, .string ⟨#[]⟩, .string ⟨#[]⟩, .string ⟨#[]⟩, .string ⟨#[]⟩, .bool false, .int .i64 0, .string ⟨#[]⟩, .string ⟨#[]⟩]⟩
instance : CoeDep Rw (.Rq23) (List Value) := ⟨[.int .u8 0, .int .u8 0, .bool false, .int .i64 5, .string ⟨#[112, 49]⟩, .string ⟨#[]⟩, .string ⟨#[]⟩, .string ⟨#[]⟩, .int .i64 0, .string ⟨#[]⟩, .string ⟨#[]⟩, .string ⟨#[]⟩, .string ⟨#[]⟩, .string ⟨#[]⟩, .bool false, .int .i64 0, .string ⟨#[]⟩, .string ⟨#[]⟩, .int .u8 1, .int .u8 0, .bool false, .int .i64 5, .string ⟨#[112, 49]⟩, .string ⟨#[]⟩, .string ⟨#[]⟩, .string ⟨#[]⟩, .int .i64 0, .string ⟨#[]⟩, .string ⟨#[]⟩, .string ⟨#[]⟩, .string ⟨#[]⟩, .string ⟨#[]⟩, .bool false, .int .i64 0, .string ⟨#[]⟩, .string ⟨#[]⟩]⟩
instance : CoeDep Rw (.Rq24) (Array Value) := ⟨#[.int .u8 0, .int .u8 0, .bool false, .int .i64 5, .string ⟨#[112, 50]⟩, .string ⟨#[]⟩, .string ⟨#[]⟩, .string ⟨#[]⟩, .int .i64 0, .string ⟨#[]⟩, .string ⟨#[]⟩, .string ⟨#[]⟩, .string ⟨#[]⟩, .string ⟨#[]⟩, .bool false, .int .i64 0, .string ⟨#[]⟩, .string ⟨#[]⟩]⟩
instance : CoeDep Rw (.Rq24) (List Value) := ⟨[.int .u8 0, .int .u8 0, .bool false, .int .i64 5, .string ⟨#[112, 50]⟩, .string ⟨#[]⟩, .string ⟨#[]⟩, .string ⟨#[]⟩, .int .i64 0, .string ⟨#[]⟩, .string ⟨#[]⟩, .string ⟨#[]⟩, .string ⟨#[]⟩, .string ⟨#[]⟩, .bool false, .int .i64 0, .string ⟨#[]⟩, .string ⟨#[]⟩]⟩
open Rw
def iLay : Lay Dg.It := ⟨fun x => (itV x).toList, 7, fun _ => rfl, fun x u hu => by
 simp only [itV, List.mem_cons, List.not_mem_nil, or_false] at hu
 rcases hu with rfl | rfl | rfl | rfl | rfl | rfl | rfl <;> rfl⟩
def ptC (p : Dg.Pt) : Array Value := (Rq0 p : Array Value)
def ptL : Lay Dg.Pt := ⟨fun x => (ptC x).toList, 15, fun _ => rfl, fun x u hu => by
 simp only [ptC, List.mem_cons, List.not_mem_nil, or_false] at hu
 rcases hu with rfl | rfl | rfl | rfl | rfl | rfl | rfl | rfl | rfl | rfl | rfl | rfl | rfl | rfl | rfl <;> rfl⟩
theorem Its.row {w : World} {B : Nat} {A : Option Addr} {l : List Dg.It} (h : Its w B A l) : Row1 iLay w B A l :=
 ⟨fun h0 => by
  obtain ⟨b, off, e, hb, hc⟩ := h.at_ h0
  refine ⟨b, off, e, hb, fun j u hu => ?_⟩
  have hj : j < l.length * 7 := by
   have := (List.getElem?_eq_some_iff.1 hu).1
   rw [iLay.flat_len] at this
   exact this
  have hd : j / 7 < l.length := by omega
  have hm : j % 7 < iLay.k := Nat.mod_lt _ (by decide)
  have e1 : j = j / 7 * iLay.k + j % 7 := by show j = j / 7 * 7 + j % 7; omega
  rw [e1, iLay.flat_get l _ _ _ (List.getElem?_eq_getElem hd) hm] at hu
  have := hc (j / 7) _ (List.getElem?_eq_getElem hd) (j % 7) u (by rw [← Array.getElem?_toList]; exact hu)
  rw [show off + j = off + j / 7 * 7 + j % 7 by omega]
  exact this⟩
theorem Row1.its {w : World} {B : Nat} {A : Option Addr} {l : List Dg.It} (h : Row1 iLay w B A l) : Its w B A l :=
 ⟨fun h0 => by
  obtain ⟨b, off, e, hb, hc⟩ := h.at_ h0
  refine ⟨b, off, e, hb, fun j x hj i u hu => ?_⟩
  have hi : i < iLay.k := (Array.getElem?_eq_some_iff.1 hu).1
  have := hc (j * iLay.k + i) u (by rw [iLay.flat_get l j i x hj hi]; rw [← Array.getElem?_toList] at hu; exact hu)
  rw [Nat.add_assoc]
  exact this⟩
theorem iInfo : (Tryz.prog.info? 51).map (fun i => (i.zero, i.size, i.bytes)) = some (some (.agg Rq1), 7, 96) := by kernel_rfl
theorem patchInfo : (Tryz.prog.info? 53).map (fun i => (i.zero, i.size, i.bytes)) = some (some (.agg Rq2), 15, 208) := by kernel_rfl
theorem wp_app1 {α : Type} {L : Lay α} {w : World} {o : Oper} {a : Act} {K : Act → World → Prop} {Q : Exit → Act → World → Prop} (sl x : Operand) (t e : TypeId) (z : Value) (bytes : Nat)
  (ho : o.op = .call { callee := .builtin .append, args := #[sl, x], argTypes := #[t, t] }) (hu : Tryz.prog.underlying t = some (.slice e))
  (hi : (Tryz.prog.info? e).map (fun i => (i.zero, i.size, i.bytes)) = some (some z, L.k, bytes)) (hz : z.cells.size = L.k) (hk : 0 < L.k)
  (B B' : Nat) (v : Value) (l l' : List α) (hs : a.eval sl = v) (hO : Own1 L e w B v l) (A : Option Addr) (n cap : Nat) (hx : a.eval x = .slice A n cap) (hn : l'.length = n) (hr : Row1 L w B' A l')
  (hlen : l.length + n ≤ 4294967296) (hby : bytes ≤ 32768) (hB : B ≤ w.heap.size)
  (h : ∀ v' w', Own1 L e w' B v' (l ++ l') → Below B w w' → w.grownBy w' v.ownBlock → (v'.ownBlock = v.ownBlock ∨ v'.ownBlock = some w.heap.size) → K (a.put o.dst v') w') : o.wp Tryz.prog a w K Q := by
 subst hn
 obtain ⟨i, h1, h2, h3, h4⟩ := info_parts hi
 have hbz : (l.length + l'.length) * bytes ≤ 140737488355328 := by
  have := Nat.mul_le_mul hlen hby
  omega
 have key : ∃ v' w', (Builtin.append_ #[t, t] o.type #[v, .slice A l'.length cap]).run Tryz.prog w = .ok v' w' ∧ Own1 L e w' B v' (l ++ l') ∧ w.grownBy w' v.ownBlock ∧ (v'.ownBlock = v.ownBlock ∨ v'.ownBlock = some w.heap.size) := by
  have run : ∀ ad : Addr, (∀ j u, (L.flat l')[j]? = some u → w.cell? (ad.add j) = some u) → ∃ v' w', (Builtin.append_ #[t, t] o.type #[v, .slice (some ad) l'.length cap]).run Tryz.prog w = .ok v' w' ∧ Own1 L e w' B v' (l ++ l') ∧ w.grownBy w' v.ownBlock ∧ (v'.ownBlock = v.ownBlock ∨ v'.ownBlock = some w.heap.size) := fun ad hc => by
   obtain ⟨v', w', hr, h5, h6, _, h7⟩ := run_append_own_at (P := Tryz.prog) w B t o.type e i z L.k bytes hu h1 h2 h3 h4 hz hk v l.length _ hO ad l'.length cap _ (L.flat_len l') hc (L.flat_one l') (by unfold maxLen; omega) hbz hB
   refine ⟨v', w', hr, ?_, h6, h7⟩
   unfold Own1
   rw [List.length_append, L.flat_append]
   exact h5
  cases A with
  | none =>
   have h0 : l' = [] := by
    rcases Nat.eq_zero_or_pos l'.length with h0 | h0
    ·exact List.length_eq_zero_iff.1 h0
    ·obtain ⟨_, _, e, _⟩ := hr.at_ h0
     cases e
   subst h0
   exact ⟨v, w, run_append_none (P := Tryz.prog) B t o.type e i L.k hu h1 v l.length _ hO cap, by rw [List.append_nil]; exact hO, ⟨rfl, rfl, rfl, Nat.le_refl _, fun _ _ _ => rfl⟩, Or.inl rfl⟩
  | some ad =>
   rcases Nat.eq_zero_or_pos l'.length with h0 | h0
   ·obtain rfl := List.length_eq_zero_iff.1 h0
    exact run ad fun j u hj => by rw [L.flat_nil] at hj; cases hj
   ·obtain ⟨b, off, e, _, hc⟩ := hr.at_ h0
    cases e
    exact run _ fun j u hj => by rw [addr_off]; exact hc j u hj
 obtain ⟨v', w', hrun, h5, h6, h7⟩ := key
 unfold Oper.wp execOp
 simp only [ho, resolve, invoke, builtin, Sem.run_bind, Sem.run_pure, Result.andThen_ok, List.map_toArray, List.map_cons, List.map_nil, hs, hx, hrun]
 exact h v' w' h5 ((Below.refl B w).grown h6 hB fun k hk => (World.ownsRow.lt hO k hk).1) h6 h7
theorem step_app1 {α : Type} {L : Lay α} {w : World} {ops : Array Oper} {rest : List Oper} {o : Oper} {a : Act} {Q : Exit → Act → World → Prop} (hgd : Region.wanted o (yielded ops a.tmps) = true) (sl x : Operand) (t e : TypeId) (z : Value) (bytes : Nat)
  (ho : o.op = .call { callee := .builtin .append, args := #[sl, x], argTypes := #[t, t] }) (hu : Tryz.prog.underlying t = some (.slice e))
  (hi : (Tryz.prog.info? e).map (fun i => (i.zero, i.size, i.bytes)) = some (some z, L.k, bytes)) (hz : z.cells.size = L.k) (hk : 0 < L.k)
  (B B' : Nat) (v : Value) (l l' : List α) (hs : a.eval sl = v) (hO : Own1 L e w B v l) (A : Option Addr) (n cap : Nat) (hx : a.eval x = .slice A n cap) (hn : l'.length = n) (hr : Row1 L w B' A l')
  (hlen : l.length + n ≤ 4294967296) (hby : bytes ≤ 32768) (hB : B ≤ w.heap.size)
  (h : ∀ v' w', Own1 L e w' B v' (l ++ l') → Below B w w' → w.grownBy w' v.ownBlock → (v'.ownBlock = v.ownBlock ∨ v'.ownBlock = some w.heap.size) → wpList Tryz.prog ops Q rest (a.put o.dst v') w') : wpList Tryz.prog ops Q (o :: rest) a w :=
 wpList_wanted hgd fun _ hK => wp_app1 sl x t e z bytes ho hu hi hz hk B B' v l l' hs hO A n cap hx hn hr hlen hby hB fun v' w' h1 h2 h3 h4 => hK _ _ (h v' w' h1 h2 h3 h4)
theorem cloneI_any (A : Option Addr) (n c : Nat) (l : List Dg.It) (w : World) (hn : l.length = n) (hb : n ≤ 2000000) (hI : Its w w.heap.size A l) :
  Calls Tryz.prog 40 #[.slice A n c] w fun e w' => ∃ v', e = .returned v' ∧ Own1 iLay 51 w' w.heap.size v' l ∧ Below w.heap.size w w' := by
 subst hn
 go_enter func40, ntmps40
 have hnil : ∀ (w : World) (a : Option Addr) (l c : Nat), (binOp .eql 22 (.slice a l c) (.slice none 0 0)).run Tryz.prog w = .ok (.bool a.isNone) w := fun w a l c => Lib.run_eql_slice_nil w _ _ a l c 0 0 underlying22
 cases A with
 | none =>
  have h0 : l = [] := by
   rcases Nat.eq_zero_or_pos l.length with h0 | h0
   ·exact List.length_eq_zero_iff.1 h0
   ·obtain ⟨_, _, e, _⟩ := hI.at_ h0
    cases e
  subst h0
  go_wp2
  go_ret
  exact ⟨_, rfl, Own1.nil iLay _ _ _, Below.refl _ _⟩
 | some ad =>
  go_wp2_with (at_builtin; go_loud (refine step_app1 (L := iLay) rfl (.tmp 5) (.tmp 6) 22 51 _ 96 rfl underlying22 iInfo rfl (by decide) w.heap.size w.heap.size _ [] l rfl (Own1.emptyLit iLay _ w _ (Nat.le_refl _)) (some ad) l.length c rfl rfl (hI.row.below ((Below.refl _ w).alloc (Nat.le_refl _) _)) (by rw [List.length_nil]; omega) (by omega) (by rw [World.size_alloc]; omega) ?_))
  intro v1 w1 h1 h2 _ _
  have hB := hide (((Below.refl _ w).alloc (Nat.le_refl _) (.cells #[] 51)).trans h2)
  clear h2
  go_wp2
  go_ret
  exact ⟨_, rfl, h1, hB.out⟩
section
variable {P : Program} {ops : Array Oper} {Q : Exit → Act → World → Prop} {md : Region.Mode} {S : World → Prop} {k : Nat}
theorem wpAnyL_duo {i j : Nat} {oi oj : Oper} {fuel : Nat} {listed : Array Bool} {a : Act} {w : World} (hr : Region.ready md ops listed = [i, j]) (hoi : ops[i]? = some oi) (hoj : ops[j]? = some oj)
  (h1 : ∀ K' : Act → World → Prop, Hid (∀ a w, SL S k (listed.setIfInBounds i true) w → wpAnyL P md ops Q S k fuel (listed.setIfInBounds i true) a w → K' a w) → if Region.wanted oi (yielded ops a.tmps) = true then Oper.wp P oi a w K' Q else K' (a.put oi.dst undef) w)
  (h2 : ∀ K' : Act → World → Prop, Hid (∀ a w, SL S k (listed.setIfInBounds j true) w → wpAnyL P md ops Q S k fuel (listed.setIfInBounds j true) a w → K' a w) → if Region.wanted oj (yielded ops a.tmps) = true then Oper.wp P oj a w K' Q else K' (a.put oj.dst undef) w) : wpAnyL P md ops Q S k (fuel + 1) listed a w :=
 ⟨fun h0 => absurd (hr.symm.trans h0) (by simp), fun x hx => by
  rw [hr] at hx
  rcases List.mem_cons.1 hx with rfl | hx
  ·exact wpOp_step hoi (fun K' hK => h1 K' (fun a w hS hW => hK a w ⟨hS, hW⟩))
  ·obtain rfl := List.mem_singleton.1 hx
   exact wpOp_step hoj (fun K' hK => h2 K' (fun a w hS hW => hK a w ⟨hS, hW⟩))⟩
end
theorem wp_copy1 {w : World} {o : Oper} {a : Act} {K : Act → World → Prop} {Q : Exit → Act → World → Prop} (d s : Operand) (t t' : TypeId)
  (ho : o.op = .call { callee := .builtin .copy, args := #[d, s], argTypes := #[t, t'] }) (v u : Value) (hd : a.eval d = v) (hs : a.eval s = u) {v' : Value} {w' : World}
  (hr : (Builtin.copy_ #[t, t'] o.type #[v, u]).run Tryz.prog w = .ok v' w') (h : K (a.put o.dst v') w') : o.wp Tryz.prog a w K Q := by
 unfold Oper.wp execOp
 simp only [ho, resolve, invoke, builtin, Sem.run_bind, Sem.run_pure, Result.andThen_ok, List.map_toArray, List.map_cons, List.map_nil, hd, hs, hr]
 exact h
theorem wp_append1 {w : World} {o : Oper} {a : Act} {K : Act → World → Prop} {Q : Exit → Act → World → Prop} (d s : Operand) (t t' : TypeId)
  (ho : o.op = .call { callee := .builtin .append, args := #[d, s], argTypes := #[t, t'] }) (v u : Value) (hd : a.eval d = v) (hs : a.eval s = u) {v' : Value} {w' : World}
  (hr : (Builtin.append_ #[t, t'] o.type #[v, u]).run Tryz.prog w = .ok v' w') (h : K (a.put o.dst v') w') : o.wp Tryz.prog a w K Q := by
 unfold Oper.wp execOp
 simp only [ho, resolve, invoke, builtin, Sem.run_bind, Sem.run_pure, Result.andThen_ok, List.map_toArray, List.map_cons, List.map_nil, hd, hs, hr]
 exact h
theorem step_append1 {w : World} {ops : Array Oper} {rest : List Oper} {o : Oper} {a : Act} {Q : Exit → Act → World → Prop} (hgd : Region.wanted o (yielded ops a.tmps) = true) (d s : Operand) (t t' : TypeId)
  (ho : o.op = .call { callee := .builtin .append, args := #[d, s], argTypes := #[t, t'] }) (v u : Value) (hd : a.eval d = v) (hs : a.eval s = u) {v' : Value} {w' : World}
  (hr : (Builtin.append_ #[t, t'] o.type #[v, u]).run Tryz.prog w = .ok v' w') (h : wpList Tryz.prog ops Q rest (a.put o.dst v') w') : wpList Tryz.prog ops Q (o :: rest) a w :=
 wpList_wanted hgd fun _ hK => wp_append1 d s t t' ho v u hd hs hr (hK _ _ h)
theorem run_cut {w : World} {g cap i j : Nat} {l : List Dg.It} {sp : List Value} (ty : TypeId) (hg : w.heap[g]? = some (.cells (iLay.flat l ++ sp).toArray 51 (0, 0))) (hc : l.length ≤ cap) (hs : sp.length = (cap - l.length) * 7) (hij : i < j) (hj : j ≤ l.length) (ad : Addr) (c : Nat) (had : j < l.length → ad = ⟨g, j * 7, none⟩) :
  ∃ R, R.length = (cap - (i + (l.length - j))) * 7 ∧ (Builtin.append_ #[22, 22] ty #[.slice (some ⟨g, 0, none⟩) i cap, .slice (some ad) (l.length - j) c]).run Tryz.prog w = .ok (.slice (some ⟨g, 0, none⟩) (i + (l.length - j)) cap) (w.setRow g (iLay.flat (l.take i ++ l.drop j) ++ R).toArray) := by
 obtain ⟨inf, h1, h2, h3, h4⟩ := info_parts iInfo
 have hfl := iLay.flat_len l
 have hdl : (iLay.flat (l.drop j)).length = (l.length - j) * inf.size := by rw [iLay.flat_len, List.length_drop, h3]; rfl
 have e1 : (iLay.flat l ++ sp).take (i * 7) = iLay.flat (l.take i) := by
  rw [List.take_append_of_le_length (by rw [hfl]; show i * 7 ≤ l.length * 7; omega)]
  exact (iLay.flat_take l i).symm
 refine ⟨(iLay.flat l ++ sp).drop (i * 7 + (l.length - j) * 7), ?_, ?_⟩
 ·rw [List.length_drop, List.length_append, hfl, hs]
  show l.length * 7 + _ - _ = _
  omega
 ·have hsrc : ∀ (k : Nat) u, (iLay.flat (l.drop j))[k]? = some u → w.cell? (ad.add k) = some u := fun k u hk => by
   have hkl := (List.getElem?_eq_some_iff.1 hk).1
   rw [iLay.flat_len, List.length_drop] at hkl
   have hjl : j < l.length := by
    rcases Nat.lt_or_ge j l.length with h | h
    ·exact h
    ·rw [Nat.sub_eq_zero_of_le h, Nat.zero_mul] at hkl; omega
   rw [had hjl, addr_off, cell_of_row _ _ _ _ _ (0, 0) hg, ← Array.getElem?_toList]
   show (iLay.flat l ++ sp)[j * 7 + k]? = some u
   rw [iLay.flat_drop, List.getElem?_drop] at hk
   have hk' : (iLay.flat l)[j * 7 + k]? = some u := hk
   rw [List.getElem?_append_left (List.getElem?_eq_some_iff.1 hk').1]
   exact hk'
  have hr := run_append_room (P := Tryz.prog) w 22 ty 51 inf underlying22 h1 g i cap _ hg ad (l.length - j) c _ hdl hsrc (iLay.flat_one _) (by omega) (by
   rw [hdl, h3, List.size_toArray, List.length_append, hfl, hs]
   show i * 7 + (l.length - j) * 7 ≤ l.length * 7 + _
   omega)
  rw [hr, hdl, h3]
  show Result.ok _ (w.setRow g ((iLay.flat l ++ sp).take (i * 7) ++ iLay.flat (l.drop j) ++ (iLay.flat l ++ sp).drop (i * 7 + (l.length - j) * 7)).toArray) = _
  rw [e1, iLay.flat_append]
theorem zeroItem : ∀ w, (zeroValue 51).run Tryz.prog w = .ok (.agg Rq1) w := Tryz.zeroValue51
theorem deleteI_any (v : Value) (l : List Dg.It) (i j B : Nat) (w : World) (hO : Own1 iLay 51 w B v l) (hij : i < j) (hj : j ≤ l.length) (hn : l.length ≤ 2000000) :
  Calls Tryz.prog 95 #[v, .int .i64 i, .int .i64 j] w fun e w' => ∃ v', e = .returned v' ∧ Own1 iLay 51 w' B v' (l.take i ++ l.drop j) ∧ Below B w w' := by
 obtain ⟨g, cap, sp, rfl, hBg, hgl, hg, hc, hm, hs⟩ := hO.form (by omega)
 have hmx := hmxQ
 have hs7 : sp.length = (cap - l.length) * 7 := hs
 have hcap : cap ≤ 9223372036854775807 := by unfold maxLen at hm; omega
 obtain ⟨n, hnl⟩ : ∃ n, n = l.length := ⟨_, rfl⟩
 rw [← hnl]
 have hne : ¬ ((i : Int) = (j : Int)) := by omega
 have hi0 : i ≤ 2000000 := by omega
 have hj0 : j ≤ n := by omega
 have hn0 : n ≤ 2000000 := by omega
 have hc0 : n ≤ cap := by omega
 have hic : i ≤ cap := by omega
 have hin : i ≤ n := by omega
 have HH := hide (And.intro hO (And.intro hg (And.intro hs hm)))
 have HN := hide hnl
 have HJ := hide (And.intro hj (And.intro hn hc))
 have H7 := hide hs7
 clear hO hg hs hm hnl hj hn hc hs7
 go_enter func95, ntmps95
 go_upto_region 5 with (fail)
 refine wp_region_noPanic ?_
 refine wp_region_L (fun _ => True) 8 hmx ?_
 have hST : True := trivial
 have hg0 : w.drew.heap[g]? = some (.cells (iLay.flat l ++ sp).toArray 51 (0, 0)) := HH.out.2.1
 have hbd := hide ((Below.refl B w).drew)
 have HG := hide hg0
 clear hg0
 generalize w.drew = w1 at *
 rcases Nat.lt_or_ge j cap with hjc | hjc
 ·have hjn : ¬ (cap = j) := by omega
  refine tU 0 10 hST rfl ?_
  refine tU 1 10 hST rfl ?_
  refine tU 2 10 hST rfl ?_
  refine tU 3 10 hST rfl ?_
  refine tU 4 10 hST rfl ?_
  refine tU 5 10 hST rfl ?_
  refine oY 6 fun K hK => ?_
  obtain ⟨R, hR, hrun⟩ := run_cut (w := w1) (i := i) (j := j) 22 HG.out (by have := HN.out; omega) H7.out hij (by have := HN.out; omega) ⟨g, j * 7, none⟩ (cap - j) (fun _ => rfl)
  rw [← HN.out] at hrun hR
  skip
  obtain ⟨K0, hK0⟩ : ∃ K0, K0 = i + (n - j) := ⟨_, rfl⟩
  rw [← hK0] at hrun
  have HK0 := hide hK0
  clear hK0
  refine wp_append1 (.tmp 22) (.tmp 25) 22 22 rfl _ _ rfl rfl hrun ?_
  have hg2 := setRow_heap w1 g _ (iLay.flat (l.take i ++ l.drop j) ++ R).toArray _ _ HG.out
  have hb2 := hide (below_setRow hbd.out hBg (iLay.flat (l.take i ++ l.drop j) ++ R).toArray)
  generalize w1.setRow g (iLay.flat (l.take i ++ l.drop j) ++ R).toArray = w2 at *
  have HG2 := hide hg2
  have HR := hide hR
  clear hg2 hR hrun
  refine hK.out _ _ (Or.inr trivial) ?_
  clear hK K HG hbd
  try simp only [Act.put, pu]
  refine tU 7 10 hST rfl ?_
  refine dnY ?_
  have hK0 := HK0.out
  have hKn : K0 < n := by omega
  have hK1 : K0 + (j - i) = n := by omega
  have hKc : K0 < cap := by omega
  have hX : (iLay.flat (l.take i ++ l.drop j)).length = K0 * 7 := by
   rw [iLay.flat_len, List.length_append, List.length_take, List.length_drop, ← HN.out, Nat.min_eq_left hin]
   show (i + (n - j)) * 7 = K0 * 7
   congr 1
   omega
  have hRl : R.length = (cap - K0) * 7 := by
   rw [HR.out]
   congr 1
   omega
  have hMl : (R.take ((n - K0) * 7)).length = (n - K0) * 7 := by
   rw [List.length_take, hRl]
   omega
  obtain ⟨zs, hzs, hclr⟩ := run_clear_any (P := Tryz.prog) w2 22 51 0 _ 7 underlying22 zeroItem rfl (by simp; decide) (by decide) g (n - K0) (cap - K0) (iLay.flat (l.take i ++ l.drop j)) (R.take ((n - K0) * 7)) (R.drop ((n - K0) * 7)) _ (by rw [List.take_append_drop]; exact HG2.out) hMl
  rw [hX] at hclr
  have hg3 := setRow_heap w2 g _ (iLay.flat (l.take i ++ l.drop j) ++ (zs ++ R.drop ((n - K0) * 7))).toArray _ _ HG2.out
  have hb3 := hide (below_setRow hb2.out hBg (iLay.flat (l.take i ++ l.drop j) ++ (zs ++ R.drop ((n - K0) * 7))).toArray)
  generalize w2.setRow g (iLay.flat (l.take i ++ l.drop j) ++ (zs ++ R.drop ((n - K0) * 7))).toArray = w3 at *
  have HG3 := hide hg3
  have HC := hide (And.intro hX (And.intro hRl hzs))
  clear hg3 hX hRl hMl hzs HG2 hb2 HR
  have HCL := hide hclr
  clear hclr hK0
  have hclr := HCL.out
  clear HCL
  go_wp2
  go_ret
  have hK0 := HK0.out
  have hlen : K0 = (l.take i ++ l.drop j).length := by
   rw [List.length_append, List.length_take, List.length_drop, ← HN.out, Nat.min_eq_left hin]
   omega
  refine ⟨_, rfl, ?_, hb3.out⟩
  rw [hlen]
  refine Own1.mk hBg HG3.out HH.out.2.2.2 (by rw [← hlen]; omega) ?_
  rw [List.length_append, List.length_drop, HC.out.2.2, HC.out.2.1, ← hlen]
  show _ = (cap - K0) * 7
  omega
 ·have hjn : cap = j := by omega
  subst hjn
  refine tU 0 10 hST rfl ?_
  refine tU 1 10 hST rfl ?_
  refine tU 2 10 hST rfl ?_
  refine tU 3 10 hST rfl ?_
  refine tU 4 10 hST rfl ?_
  refine tU 5 10 hST rfl ?_
  refine oY 6 fun K hK => ?_
  obtain ⟨R, hR, hrun⟩ := run_cut (w := w1) (i := i) (j := cap) 22 HG.out (by have := HN.out; omega) H7.out hij (by have := HN.out; omega) ⟨g, 0, none⟩ (cap - cap) (fun h => by have := HN.out; omega)
  rw [← HN.out] at hrun hR
  rw [show n - cap = 0 by omega, Nat.sub_self] at hrun
  obtain ⟨K0, hK0⟩ : ∃ K0, K0 = i + 0 := ⟨_, rfl⟩
  rw [← hK0] at hrun
  have HK0 := hide hK0
  clear hK0
  refine wp_append1 (.tmp 22) (.tmp 25) 22 22 rfl _ _ rfl rfl hrun ?_
  have hg2 := setRow_heap w1 g _ (iLay.flat (l.take i ++ l.drop cap) ++ R).toArray _ _ HG.out
  have hb2 := hide (below_setRow hbd.out hBg (iLay.flat (l.take i ++ l.drop cap) ++ R).toArray)
  generalize w1.setRow g (iLay.flat (l.take i ++ l.drop cap) ++ R).toArray = w2 at *
  have HG2 := hide hg2
  have HR := hide hR
  clear hg2 hR hrun
  refine hK.out _ _ (Or.inr trivial) ?_
  clear hK K HG hbd
  try simp only [Act.put, pu]
  refine tU 7 10 hST rfl ?_
  refine dnY ?_
  have hK0 := HK0.out
  have hKn : K0 < n := by omega
  have hK1 : K0 + (cap - i) = n := by omega
  have hKc : K0 < cap := by omega
  have hX : (iLay.flat (l.take i ++ l.drop cap)).length = K0 * 7 := by
   rw [iLay.flat_len, List.length_append, List.length_take, List.length_drop, ← HN.out, Nat.min_eq_left hin]
   show (i + (n - cap)) * 7 = K0 * 7
   congr 1
   omega
  have hRl : R.length = (cap - K0) * 7 := by
   rw [HR.out]
   congr 1
   omega
  have hMl : (R.take ((n - K0) * 7)).length = (n - K0) * 7 := by
   rw [List.length_take, hRl]
   omega
  obtain ⟨zs, hzs, hclr⟩ := run_clear_any (P := Tryz.prog) w2 22 51 0 _ 7 underlying22 zeroItem rfl (by simp; decide) (by decide) g (n - K0) (cap - K0) (iLay.flat (l.take i ++ l.drop cap)) (R.take ((n - K0) * 7)) (R.drop ((n - K0) * 7)) _ (by rw [List.take_append_drop]; exact HG2.out) hMl
  rw [hX] at hclr
  have hg3 := setRow_heap w2 g _ (iLay.flat (l.take i ++ l.drop cap) ++ (zs ++ R.drop ((n - K0) * 7))).toArray _ _ HG2.out
  have hb3 := hide (below_setRow hb2.out hBg (iLay.flat (l.take i ++ l.drop cap) ++ (zs ++ R.drop ((n - K0) * 7))).toArray)
  generalize w2.setRow g (iLay.flat (l.take i ++ l.drop cap) ++ (zs ++ R.drop ((n - K0) * 7))).toArray = w3 at *
  have HG3 := hide hg3
  have HC := hide (And.intro hX (And.intro hRl hzs))
  clear hg3 hX hRl hMl hzs HG2 hb2 HR
  have HCL := hide hclr
  clear hclr hK0
  have hclr := HCL.out
  clear HCL
  go_wp2
  go_ret
  have hK0 := HK0.out
  have hlen : K0 = (l.take i ++ l.drop cap).length := by
   rw [List.length_append, List.length_take, List.length_drop, ← HN.out, Nat.min_eq_left hin]
   omega
  refine ⟨_, rfl, ?_, hb3.out⟩
  rw [hlen]
  refine Own1.mk hBg HG3.out HH.out.2.2.2 (by rw [← hlen]; omega) ?_
  rw [List.length_append, List.length_drop, HC.out.2.2, HC.out.2.1, ← hlen]
  show _ = (cap - K0) * 7
  omega
end Go.Proofs.YtkpbofnnnihbeaaGreat

