/- Walks and laws of this seat, several texts in one: C17, Code5, C18, C19, C20, P11, P12, SV, Shown, S9, S10, SH, P17, C26, P18, P19, P20, P16, C31, P21, P22. No conditions but those that each theorem states. -/
import Derived.Test.YtobhpeockinnjaaGreatDoorHA5
import Derived.Laws.CopyOwn
import Derived.Lib.LazyBuf
import Derived.WalkSpells
import Derived.Laws.ResultCell
import Derived.RegionTactic
import Derived.ChangeAlike
import Derived.BigQuiet
import Derived.Laws.StructEq
/- strings.NewReplacer at three bytes and its build. No conditions but those that each theorem states. -/
namespace Go.Proofs.YtobhpeockinnjaaGreatDoor
open Go Go.RowKit Go.Sort Go.Maps
/-- What is replaced, and by what. -/
def six : List ByteArray := [⟨#[92]⟩, ⟨#[92, 92]⟩, ⟨#[34]⟩, ⟨#[92, 34]⟩, ⟨#[10]⟩, ⟨#[92, 110]⟩]
/-- The row of a byteStringReplacer: what each byte is replaced by, and the bytes to replace. -/
def rowOf (f : Nat → Value) (tr : Value) : Array Value := ((List.range 256).map f ++ [tr]).toArray
theorem rowOf_size (f : Nat → Value) (tr : Value) : (rowOf f tr).size = 257 := by simp [rowOf]
theorem rowOf_at (f : Nat → Value) (tr : Value) {c : Nat} (h : c < 256) : (rowOf f tr)[c]? = some (f c) := by
  unfold rowOf
  rw [List.getElem?_toArray, List.getElem?_append_left (by simp; omega), List.getElem?_map, List.getElem?_range h]
  rfl
theorem rowOf_last (f : Nat → Value) (tr : Value) : (rowOf f tr)[256]? = some tr := by
  unfold rowOf
  rw [List.getElem?_toArray, List.getElem?_append_right (by simp)]
  simp
theorem rowOf_set (f : Nat → Value) (tr v : Value) {c : Nat} (h : c < 256) : (rowOf f tr).setIfInBounds c v = rowOf (fun j => if j = c then v else f j) tr := by
  apply Array.ext_getElem?
  intro j
  rw [Array.getElem?_setIfInBounds]
  by_cases e : c = j
  · subst e
    rw [if_pos rfl, if_pos (by rw [rowOf_size]; omega), rowOf_at _ _ h, if_pos rfl]
  · rw [if_neg e]
    rcases Nat.lt_trichotomy j 256 with h1 | h1 | h1
    · rw [rowOf_at _ _ h1, rowOf_at _ _ h1, if_neg (fun e2 => e e2.symm)]
    · subst h1; rw [rowOf_last, rowOf_last]
    · rw [Array.getElem?_eq_none (by rw [rowOf_size]; omega), Array.getElem?_eq_none (by rw [rowOf_size]; omega)]
theorem rowOf_setLast (f : Nat → Value) (tr v : Value) : (rowOf f tr).setIfInBounds 256 v = rowOf f v := by
  apply Array.ext_getElem?
  intro j
  rw [Array.getElem?_setIfInBounds]
  rcases Nat.lt_trichotomy j 256 with h1 | h1 | h1
  · rw [if_neg (by omega), rowOf_at _ _ h1, rowOf_at _ _ h1]
  · subst h1; rw [if_pos rfl, if_pos (by rw [rowOf_size]; omega), rowOf_last]
  · rw [if_neg (by omega), Array.getElem?_eq_none (by rw [rowOf_size]; omega), Array.getElem?_eq_none (by rw [rowOf_size]; omega)]
/-- The bytes in the order in which they are laid, and what each stands for behind its backslash. -/
def keyL : List Nat := [10, 34, 92]
def escN (c : Nat) : Nat := if c = 10 then 110 else c
theorem own_type {w : World} {B g : Nat} {v : Value} {l : List ByteArray} (h : OwnS w B v l) (hv : v.ownBlock = some g) : ∃ cs, w.heap[g]? = some (.cells cs 9 (0, 0)) := by
  obtain ⟨_, h2⟩ := h
  rcases h2 with ⟨rfl, _⟩ | ⟨g', cap, cur, rfl, _, hh, _⟩
  · cases hv
  · cases hv; exact ⟨cur, hh⟩
theorem ne_type {w : World} {g g' : Nat} {c1 c2 : Array Value} {T1 T2 : TypeId} {f1 f2 : Nat × Nat} (h1 : w.heap[g]? = some (.cells c1 T1 f1)) (h2 : w.heap[g']? = some (.cells c2 T2 f2)) (hT : T1 ≠ T2) : g ≠ g' := fun e => by
  subst e
  rw [h1] at h2
  injection h2 with h2
  injection h2 with _ h2
  exact hT h2
theorem bytesRow_two (a b : UInt8) (cap : Nat) : (bytesRow ⟨#[a, b]⟩ cap)[0]? = some (.int .u8 (a.toNat : Int)) ∧ (bytesRow ⟨#[a, b]⟩ cap)[1]? = some (.int .u8 (b.toNat : Int)) := by
  unfold bytesRow
  constructor
  · rw [Array.getElem?_append_left (by simp)]; simp
  · rw [Array.getElem?_append_left (by simp)]; simp
end Go.Proofs.YtobhpeockinnjaaGreatDoor
/- Texts of codes, in plain Lean: their lines, how long they are, beginnings. No program in sight. -/
namespace Go.Proofs.YtobhpeockinnjaaGreatDoor.Dg
open Go
/-- A byte as it stands in quotes. -/
def escC (c : UInt8) : List UInt8 := if c = 92 then [92, 92] else if c = 34 then [92, 34] else if c = 10 then [92, 110] else [c]
def escL (l : List UInt8) : List UInt8 := l.flatMap escC
def quoteL (l : List UInt8) : List UInt8 := 34 :: (escL l ++ [34])
def orL (l : List UInt8) : List UInt8 := if l = [] then [45] else l
def wDiv : List UInt8 := [100, 105, 118, 105, 115, 105, 111, 110]
def wArt : List UInt8 := [97, 114, 116, 105, 99, 108, 101]
def wRep : List UInt8 := [114, 101, 112, 101, 97, 108, 101, 100]
/-- The words of an item. -/
def wordsI (x : It) : List (List UInt8) :=
  if x.kind = 1 then [wDiv, L x.id, orL (L x.parent), orL (L x.number)]
  else [if x.gone then wRep else wArt, L x.id, orL (L x.parent), orL (L x.number), quoteL (L x.north), quoteL (L x.south)]
/-- Words with blanks between them. -/
def joinW : List (List UInt8) → List UInt8
  | [] => []
  | [a] => a
  | a :: b :: r => a ++ 32 :: joinW (b :: r)
def lineL (x : It) : List UInt8 := joinW (wordsI x) ++ [10]
def textL (l : List It) : List UInt8 := l.flatMap lineL
theorem escL_len (l : List UInt8) : (escL l).length ≤ 2 * l.length := by
  induction l with
  | nil => exact Nat.le_refl _
  | cons c l ih =>
    have h : (escC c).length ≤ 2 := by unfold escC; split; exact Nat.le_refl _; split; exact Nat.le_refl _; split; exact Nat.le_refl _; simp
    unfold escL at ih ⊢
    rw [List.flatMap_cons, List.length_append, List.length_cons]
    omega
theorem joinW_len : ∀ (ws : List (List UInt8)) (n : Nat), (∀ w ∈ ws, w.length ≤ n) → (joinW ws).length ≤ ws.length * (n + 1)
  | [], _, _ => Nat.zero_le _
  | [a], n, h => by
    have := h a (List.mem_cons_self ..)
    show a.length ≤ 1 * (n + 1)
    omega
  | a :: b :: r, n, h => by
    have h1 := h a (List.mem_cons_self ..)
    have h2 := joinW_len (b :: r) n (fun w hw => h w (List.mem_cons_of_mem _ hw))
    rw [joinW, List.length_append, List.length_cons, List.length_cons, Nat.add_mul]
    omega
theorem lineL_len (x : It) (hx : x.id.size ≤ 500 ∧ x.parent.size ≤ 500 ∧ x.number.size ≤ 500 ∧ x.north.size ≤ 500 ∧ x.south.size ≤ 500) : (lineL x).length ≤ 6100 := by
  obtain ⟨h1, h2, h3, h4, h5⟩ := hx
  have ho : ∀ s : ByteArray, s.size ≤ 500 → (orL (L s)).length ≤ 1002 := fun s hs => by
    unfold orL
    split
    · decide
    · rw [len_L]; omega
  have hq : ∀ s : ByteArray, s.size ≤ 500 → (quoteL (L s)).length ≤ 1002 := fun s hs => by
    unfold quoteL
    have := escL_len (L s)
    rw [len_L] at this
    rw [List.length_cons, List.length_append, List.length_singleton]
    omega
  have hi : (L x.id).length ≤ 1002 := by rw [len_L]; omega
  unfold lineL
  rw [List.length_append, List.length_singleton]
  have hw : ∀ w ∈ wordsI x, w.length ≤ 1002 := fun w hw => by
    unfold wordsI at hw
    split at hw
    · simp only [List.mem_cons, List.not_mem_nil, or_false] at hw
      rcases hw with rfl | rfl | rfl | rfl
      · decide
      · exact hi
      · exact ho _ h2
      · exact ho _ h3
    · simp only [List.mem_cons, List.not_mem_nil, or_false] at hw
      rcases hw with rfl | rfl | rfl | rfl | rfl | rfl
      · split <;> decide
      · exact hi
      · exact ho _ h2
      · exact ho _ h3
      · exact hq _ h4
      · exact hq _ h5
  have hl : (wordsI x).length ≤ 6 := by unfold wordsI; split <;> simp
  have := joinW_len (wordsI x) 1002 hw
  have : (wordsI x).length * (1002 + 1) ≤ 6 * (1002 + 1) := Nat.mul_le_mul_right _ hl
  omega
theorem textL_len : ∀ (l : List It), (∀ x ∈ l, x.id.size ≤ 500 ∧ x.parent.size ≤ 500 ∧ x.number.size ≤ 500 ∧ x.north.size ≤ 500 ∧ x.south.size ≤ 500) → (textL l).length ≤ l.length * 6100
  | [], _ => Nat.zero_le _
  | x :: l, h => by
    have h1 := lineL_len x (h x (List.mem_cons_self ..))
    have h2 := textL_len l (fun y hy => h y (List.mem_cons_of_mem _ hy))
    have e : textL (x :: l) = lineL x ++ textL l := by unfold textL; rw [List.flatMap_cons]
    rw [e, List.length_append, List.length_cons, Nat.add_mul]
    omega
theorem textL_take (l : List It) (k : Nat) : (textL l).take (textL (l.take k)).length = textL (l.take k) := by
  have h : textL l = textL (l.take k) ++ textL (l.drop k) := by
    unfold textL
    rw [← List.flatMap_append, List.take_append_drop]
  rw [h, List.take_left]
theorem textL_take_le (l : List It) (k : Nat) : (textL (l.take k)).length ≤ (textL l).length := by
  have h : textL l = textL (l.take k) ++ textL (l.drop k) := by
    unfold textL
    rw [← List.flatMap_append, List.take_append_drop]
  rw [h, List.length_append]; omega
/-- What Text answers. -/
def textC (l : List It) : ByteArray × Int := if validC l then (if 1000000 < (textL l).length then (nil8, 2) else (B (textL l), 0)) else (nil8, 1)
end Go.Proofs.YtobhpeockinnjaaGreatDoor.Dg
/- What the replacer hands back. No conditions but those that each theorem states. -/
namespace Go.Proofs.YtobhpeockinnjaaGreatDoor
open Go Go.RowKit Go.Sort Go.Maps
/-- How long the text gets. -/
def cntL (l : List UInt8) : Nat := l.count 10 + l.count 34 + l.count 92
theorem escL_size : ∀ l : List UInt8, (Dg.escL l).length = l.length + cntL l
  | [] => rfl
  | c :: l => by
    have ih := escL_size l
    have e : Dg.escL (c :: l) = Dg.escC c ++ Dg.escL l := rfl
    rw [e, List.length_append, ih]
    unfold cntL
    simp only [List.count_cons, List.length_cons, beq_iff_eq]
    unfold Dg.escC
    by_cases h1 : c = 92
    · subst h1; simp; omega
    · by_cases h2 : c = 34
      · subst h2; simp; omega
      · by_cases h3 : c = 10
        · subst h3; simp; omega
        · simp [h1, h2, h3]; omega
theorem escL_none : ∀ l : List UInt8, cntL l = 0 → Dg.escL l = l
  | [], _ => rfl
  | c :: l, h => by
    have e : Dg.escL (c :: l) = Dg.escC c ++ Dg.escL l := rfl
    unfold cntL at h
    simp only [List.count_cons, beq_iff_eq] at h
    have h1 : c ≠ 10 := fun e => by rw [if_pos e] at h; omega
    have h2 : c ≠ 34 := fun e => by rw [if_pos e] at h; omega
    have h3 : c ≠ 92 := fun e => by rw [if_pos e] at h; omega
    rw [e, escL_none l (by unfold cntL; omega)]
    unfold Dg.escC
    rw [if_neg h3, if_neg h2, if_neg h1]
    rfl
/-- The count of the first k of the three bytes. -/
def cntTo (l : List UInt8) (k : Nat) : Nat := ((keyL.take k).map fun c => l.count c.toUInt8).sum
theorem cntTo_all (l : List UInt8) : cntTo l 3 = cntL l := by
  unfold cntTo cntL keyL
  simp
  omega
theorem cntL_le (l : List UInt8) : cntL l ≤ l.length := by
  have h1 := escL_size l
  have h2 := Dg.escL_len l
  omega
theorem cntTo_le (l : List UInt8) (k : Nat) : cntTo l k ≤ 3 * l.length := by
  unfold cntTo keyL
  have h1 := List.count_le_length (a := (10 : UInt8)) (l := l)
  have h2 := List.count_le_length (a := (34 : UInt8)) (l := l)
  have h3 := List.count_le_length (a := (92 : UInt8)) (l := l)
  match k with
  | 0 => simp
  | 1 => simp; omega
  | 2 => simp; omega
  | k + 3 => simp; omega
def spC (c : UInt8) : Bool := c == 10 || (c == 34 || c == 92)
theorem cntL_snoc (l : List UInt8) (c : UInt8) : cntL (l ++ [c]) = cntL l + (if spC c = true then 1 else 0) := by
  unfold cntL spC
  simp only [List.count_append, List.count_cons, List.count_nil, beq_iff_eq, Bool.or_eq_true]
  by_cases h1 : c = 10
  · subst h1; simp; omega
  · by_cases h2 : c = 34
    · subst h2; simp; omega
    · by_cases h3 : c = 92
      · subst h3; simp; omega
      · simp [h1, h2, h3]
theorem sp_num {c : UInt8} : spC c = true ↔ (c.toNat = 10 ∨ c.toNat = 34 ∨ c.toNat = 92) := by
  unfold spC
  simp only [Bool.or_eq_true, beq_iff_eq, ← UInt8.toNat_inj]
  rfl
theorem L_takeS {s : ByteArray} {k : Nat} (h : k < s.size) : (Dg.L s).take (k + 1) = (Dg.L s).take k ++ [s[k]'h] := by
  have hl : k < (Dg.L s).length := by rw [Dg.len_L]; exact h
  rw [List.take_succ_eq_append_getElem hl]
  have := byte_at h
  rw [List.getElem?_eq_getElem hl] at this
  injection this with this
  rw [this]
theorem wp_cp {w : World} {o : Oper} {a : Act} {K : Act → World → Prop} {Q : Exit → Act → World → Prop} (d s : Operand)
    (ho : o.op = .call { callee := .builtin .copy, args := #[d, s], argTypes := #[125, 125] })
    (g off dLen dCap : Nat) (ad : Addr) (sLen sCap : Nat) (hd : a.eval d = .slice (some ⟨g, off, none⟩) dLen dCap) (hs : a.eval s = .slice (some ad) sLen sCap)
    (cur : Array Value) (t : TypeId) (hg : w.heap[g]? = some (.cells cur t (0, 0))) (cs : List Value) (hn : cs.length = Nat.min sLen dLen)
    (hsrc : ∀ j v, cs[j]? = some v → w.cell? (ad.add j) = some v) (hfit : off + cs.length ≤ cur.size) (h1 : ∀ v ∈ cs, v.oneCell' = true)
    (h : K (a.put o.dst (goInt cs.length)) (w.setRow g (cur.toList.take off ++ (cs ++ cur.toList.drop (off + cs.length))).toArray)) : o.wp Tryz.prog a w K Q := by
  have hrun := run_copy_row (P := Tryz.prog) w 125 125 o.type 5 g off dLen dCap ad sLen sCap cur t cs Tryz.underlying125 (by kernel_rfl) hg hn hsrc hfit h1
  unfold Oper.wp
  simp [execOp, ho, resolve, invoke, builtin, hd, hs, hrun, Result.andThen]
  exact h
/-- The new text's bytes, as far as they are laid. -/
def bufA (pre : List UInt8) (N : Nat) : Array Value := (pre.map (fun (b : UInt8) => Value.int .u8 (b.toNat : Int)) ++ List.replicate (N - pre.length) (Value.int .u8 0)).toArray
theorem bufA_size (pre : List UInt8) (N : Nat) (h : pre.length ≤ N) : (bufA pre N).size = N := by simp [bufA]; omega
theorem buf_set (pre : List UInt8) (N : Nat) (c : UInt8) (h : pre.length < N) : (bufA pre N).setIfInBounds pre.length (.int .u8 (c.toNat : Int)) = bufA (pre ++ [c]) N := by
  unfold bufA
  rw [List.setIfInBounds_toArray, List.set_append, if_neg (by simp), List.length_map, Nat.sub_self]
  congr 1
  rw [List.map_append, List.append_assoc]
  congr 1
  rw [show N - pre.length = (N - (pre ++ [c]).length) + 1 by rw [List.length_append, List.length_singleton]; omega, List.replicate_succ]
  rfl
theorem buf_cp (pre : List UInt8) (N : Nat) (x y : UInt8) (_h : pre.length + 2 ≤ N) : ((bufA pre N).toList.take pre.length ++ ([Value.int .u8 (x.toNat : Int), Value.int .u8 (y.toNat : Int)] ++ (bufA pre N).toList.drop (pre.length + 2))).toArray = bufA (pre ++ [x, y]) N := by
  unfold bufA
  refine congrArg List.toArray ?_
  rw [List.take_append_of_le_length (by simp), List.take_of_length_le (by simp), List.map_append, List.append_assoc]
  congr 1
  have e1 : List.drop (pre.length + 2) ((pre.map (fun (b : UInt8) => Value.int .u8 (b.toNat : Int))) ++ List.replicate (N - pre.length) (Value.int .u8 0)) = List.replicate (N - (pre ++ [x, y]).length) (Value.int .u8 0) := by
    rw [List.drop_append, List.drop_eq_nil_of_le (by simp), List.nil_append, List.length_map, List.drop_replicate]
    congr 1
    simp
    omega
  show [Value.int .u8 (x.toNat : Int), Value.int .u8 (y.toNat : Int)] ++ List.drop (pre.length + 2) _ = [Value.int .u8 (x.toNat : Int), Value.int .u8 (y.toNat : Int)] ++ _
  rw [e1]
theorem escL_take_le (l : List UInt8) (k : Nat) : (Dg.escL (l.take k)).length ≤ (Dg.escL l).length := by
  conv => rhs; rw [← List.take_append_drop k l]
  unfold Dg.escL
  rw [List.flatMap_append, List.length_append]
  omega
theorem buf_at (pre : List UInt8) (N : Nat) (h : pre.length < N) : (bufA pre N)[pre.length]? = some (.int .u8 0) := by
  unfold bufA
  rw [List.getElem?_toArray, List.getElem?_append_right (by simp), List.length_map, Nat.sub_self, List.getElem?_replicate, if_pos (by omega)]
theorem byteInfo9 : (Tryz.prog.info? 5).map (fun i => (i.zero, i.size, i.bytes)) = some (some (.int .u8 0), 1, 1) := by kernel_rfl
theorem info_partsB : ∃ i, Tryz.prog.info? 5 = some i ∧ i.zero = some (.int .u8 0) ∧ i.size = 1 ∧ i.bytes = 1 := info_parts byteInfo9
theorem made_buf (N : Nat) : madeCells (Value.int IntKind.u8 0).cells N = bufA [] N := by
  unfold bufA
  apply Array.ext
  · simp [size_madeCells]
  · intro i h1 h2
    simp [madeCells, Value.cells, Nat.mod_one]
theorem escL_snoc (l : List UInt8) (c : UInt8) : Dg.escL (l ++ [c]) = Dg.escL l ++ Dg.escC c := by
  unfold Dg.escL
  rw [List.flatMap_append]
  simp
theorem escC_sp {c : UInt8} (h : spC c = true) : ∃ e : UInt8, Dg.escC c = [92, e] ∧ (e.toNat : Int) = (escN c.toNat : Int) := by
  rcases sp_num.1 h with e | e | e
  · obtain rfl : c = 10 := UInt8.toNat_inj.1 e
    exact ⟨110, rfl, rfl⟩
  · obtain rfl : c = 34 := UInt8.toNat_inj.1 e
    exact ⟨34, rfl, rfl⟩
  · obtain rfl : c = 92 := UInt8.toNat_inj.1 e
    exact ⟨92, rfl, rfl⟩
theorem escC_no {c : UInt8} (h : spC c = false) : Dg.escC c = [c] := by
  unfold spC at h
  simp only [Bool.or_eq_false_iff, beq_eq_false_iff_ne, ne_eq] at h
  unfold Dg.escC
  rw [if_neg h.2.2, if_neg h.2.1, if_neg h.1]
end Go.Proofs.YtobhpeockinnjaaGreatDoor
/- quoted of package code. No conditions but those that each theorem states. -/
namespace Go.Proofs.YtobhpeockinnjaaGreatDoor
open Go Go.RowKit Go.Sort Go.Maps
end Go.Proofs.YtobhpeockinnjaaGreatDoor
/- strings.Builder's WriteString with all that it leaves alone. No conditions but those that each theorem states. -/
namespace Go.Proofs.YtobhpeockinnjaaGreatDoor
open Go Go.RowKit Go.Sort Go.Maps
/-- Where the bytes lie behind an append of a string. -/
theorem string_at (w : World) (ty : TypeId) (B : Nat) (v : Value) (l : List UInt8) (hown : OwnB w B v l) (s : ByteArray) (hlen : l.length + s.size ≤ 2199023255552) (hB : B ≤ w.heap.size) :
    ∃ v' w', (Builtin.append_ #[125, 9] ty #[v, .string s]).run Tryz.prog w = .ok v' w' ∧ OwnB w' B v' (l ++ Dg.L s) ∧ w.grownBy w' v.ownBlock ∧ (v'.ownBlock = v.ownBlock ∨ v'.ownBlock = some w.heap.size) := by
  obtain ⟨i, h1, h2, h3, h4⟩ := info_parts byteInfo
  obtain ⟨v', w', hrun, ho, hg, hnil⟩ := Lib.run_append_own_string (P := Tryz.prog) w B 125 9 ty 5 i Tryz.underlying125 Tryz.underlying9 h1 h2 h3 h4 v l.length _ hown s (by unfold maxLen; omega) (by omega) hB
  refine ⟨v', w', hrun, ?_, hg, ?_⟩
  · unfold OwnB
    rw [List.length_append, Lib.byteCells_append, Dg.len_L]
    exact ho
  · have hown2 : w.ownsRow B 5 1 v l.length (Lib.byteCells l) := hown
    obtain ⟨hl, hc⟩ := hown2
    rcases hc with ⟨rfl, hl0⟩ | ⟨g, cap, cur, rfl, _, hh, hle, _, hsz, hx⟩
    · by_cases hz : s.size = 0
      · exact Or.inl (by rw [hnil.2 ⟨rfl, hz⟩])
      · have hr2 := run_append_nil_string (P := Tryz.prog) w 125 9 ty 5 i (.int .u8 0) Tryz.underlying125 Tryz.underlying9 h1 h2 s (by omega) (by omega) (by rw [h4]; omega)
        rw [hrun] at hr2
        cases hr2
        exact Or.inr rfl
    · by_cases hroom : l.length + s.size ≤ cap
      · have hr2 := Lib.run_append_room_string (P := Tryz.prog) w 125 9 ty 5 i Tryz.underlying125 Tryz.underlying9 h1 h3 g l.length cap cur hh s hroom (by omega)
        rw [hrun] at hr2
        cases hr2
        exact Or.inl rfl
      · have hr2 := Lib.run_append_grow_string (P := Tryz.prog) w 125 9 ty 5 i (.int .u8 0) Tryz.underlying125 Tryz.underlying9 h1 h2 ⟨g, 0, none⟩ l.length cap (Lib.byteCells l) (by rw [h3]; simpa using hl) (fun j u hj => by
          rw [addr_off, Nat.zero_add, cell_of_row _ _ _ _ _ (0, 0) hh, ← Array.getElem?_toList]
          rw [← hx, List.getElem?_take] at hj
          split at hj
          · exact hj
          · cases hj) s (by omega) (by omega) (by
            rw [h4]
            exact growslice_fits (by omega) (by omega))
        rw [hrun] at hr2
        cases hr2
        exact Or.inr rfl
/-- A builder in block bb, its bytes the call's own from block n0 on. -/
structure BldAt (bb n0 : Nat) (W : World) (v : Value) (l : List UInt8) : Prop where
  row : ∃ p, (p = .pointer none ∨ p = .pointer (some ⟨bb, 0, none⟩)) ∧ W.heap[bb]? = some (.cells #[p, v] 130 (0, 0))
  own : OwnB W n0 v l
def bldS (bb : Nat) (v : Value) : List Nat := bb :: v.ownBlock.toList
/-- What a write leaves of it. -/
def BldStep (bb n0 : Nat) (W W' : World) (v : Value) (l' : List UInt8) : Prop := ∃ v', BldAt bb n0 W' v' l' ∧ Off (outS bb v) W W' ∧ ∀ g, v'.ownBlock = some g → v.ownBlock = some g ∨ W.heap.size ≤ g
theorem OwnB.lt {w : World} {B : Nat} {v : Value} {l : List UInt8} (h : OwnB w B v l) {g : Nat} (hg : v.ownBlock = some g) : B ≤ g ∧ g < w.heap.size := OwnV.lt h.toV hg
theorem OwnB.same {w w' : World} {B : Nat} {v : Value} {l : List UInt8} (h : OwnB w B v l) (hg : ∀ g, v.ownBlock = some g → w'.heap[g]? = w.heap[g]?) : OwnB w' B v l := (OwnV.same h.toV hg).toB
theorem BldAt.same {bb n0 : Nat} {W W' : World} {v : Value} {l : List UInt8} (h : BldAt bb n0 W v l) (hg : ∀ g ∈ outS bb v, W'.heap[g]? = W.heap[g]?) : BldAt bb n0 W' v l :=
  ⟨by obtain ⟨p, hp, hr⟩ := h.row; exact ⟨p, hp, (hg bb (List.mem_cons_self ..)).trans hr⟩, h.own.same fun g hv => hg g (outS_own hv)⟩
theorem BldAt.next {bb n0 : Nat} {W W' : World} {v : Value} {l : List UInt8} (h : BldAt bb n0 W v l) (hb : Below W.heap.size W W') : BldAt bb n0 W' v l :=
  h.same fun g hg => hb.block g (by
    rcases mem_outS hg with rfl | e
    · obtain ⟨p, _, hr⟩ := h.row; exact lt_of_block hr
    · exact (h.own.lt e).2)
theorem iCells2 {w : World} {g : Nat} {a0 a1 : Value} {T : TypeId} (h : w.heap[g]? = some (.cells #[a0, a1] T (0, 0))) : w.cell? ⟨g, 0, none⟩ = some a0 ∧ w.cell? ⟨g, 1, none⟩ = some a1 := by
  refine ⟨?_, ?_⟩ <;> (rw [cell_of_row _ _ _ _ _ (0, 0) h]; rfl)
/-- copyCheck leaves the builder's address in it. -/
theorem cc_any (bb : Nat) (p v : Value) (hp : p = .pointer none ∨ p = .pointer (some ⟨bb, 0, none⟩)) (w : World) (hr : w.heap[bb]? = some (.cells #[p, v] 130 (0, 0))) :
    Calls Tryz.prog 126 #[.pointer (some ⟨bb, 0, none⟩)] w fun e w' => e = .returned (.tuple #[]) ∧ w'.heap[bb]? = some (.cells #[.pointer (some ⟨bb, 0, none⟩), v] 130 (0, 0)) ∧ Off [bb] w w' := by
  obtain ⟨c0, c1⟩ := iCells2 hr
  rcases hp with rfl | rfl
  · refine (Any.Builder_copyCheck_fresh (ρ := Tryz.renWS) { Tryz.layWS with } Tryz.extraWS.toX72 bb w c0 (by unfold World.shape?; rw [hr]; rfl) (frozen_of_row _ bb 0 _ _ hr)).mono ?_
    rintro e w' ⟨rfl, rfl⟩
    exact ⟨rfl, setCell_rowN hr 0 _, (Off.refl _ _).setCell (p := ⟨bb, 0, none⟩) (List.mem_singleton.2 rfl) _⟩
  · refine (Any.Builder_copyCheck_used (ρ := Tryz.renWS) { Tryz.layWS with } Tryz.extraWS.toX72 bb w c0).mono ?_
    rintro e w' ⟨rfl, rfl⟩
    exact ⟨rfl, hr, Off.refl _ _⟩
theorem step_bs {w : World} {ops : Array Oper} {rest : List Oper} {o : Oper} {a : Act} {Q : Exit → Act → World → Prop} (hgd : Region.wanted o (yielded ops a.tmps) = true) (sl x : Operand)
    (ho : o.op = .call { callee := .builtin .append, args := #[sl, x], argTypes := #[125, 9] })
    (B : Nat) (v : Value) (l : List UInt8) (hs : a.eval sl = v) (hown : OwnB w B v l) (s : ByteArray) (hx : a.eval x = .string s) (hlen : l.length + s.size ≤ 2199023255552) (hB : B ≤ w.heap.size)
    (h : ∀ v' w', OwnB w' B v' (l ++ Dg.L s) → w.grownBy w' v.ownBlock → (v'.ownBlock = v.ownBlock ∨ v'.ownBlock = some w.heap.size) → wpList Tryz.prog ops Q rest (a.put o.dst v') w') : wpList Tryz.prog ops Q (o :: rest) a w :=
  wpList_wanted hgd fun _ hK => by
    obtain ⟨v', w', hrun, h1, h2, h3⟩ := string_at w o.type B v l hown s hlen hB
    unfold Oper.wp execOp
    simp only [ho, resolve, invoke, builtin, Sem.run_bind, Sem.run_pure, Result.andThen_ok, List.map_toArray, List.map_cons, List.map_nil, hs, hx, hrun]
    exact hK _ _ (h v' w' h1 h2 h3)
set_option maxRecDepth 100000 in
set_option maxHeartbeats 4000000 in
theorem bwrite_any (bb n0 : Nat) (hbb : bb < n0) (s : ByteArray) (v : Value) (l : List UInt8) (w : World) (h : BldAt bb n0 w v l) (hlen : l.length + s.size ≤ 2199023255552) (hn : n0 ≤ w.heap.size) :
    Calls Tryz.prog 95 #[.pointer (some ⟨bb, 0, none⟩), .string s] w fun e w' => (∃ r, e = .returned r) ∧ BldStep bb n0 w w' v (l ++ Dg.L s) := by
  obtain ⟨p, hp, hr⟩ := h.row
  have hown := h.own
  go_enter Tryz.func95, Tryz.ntmps95
  go_wp2_with fail
  refine (cc_any bb p v hp w hr).mono ?_
  rintro e w1 ⟨rfl, hr1, ho1⟩
  have hown1 : OwnB w1 n0 v l := hown.same fun g hg => ho1.block g (hown.lt hg).2 (fun hm => by have := (hown.lt hg).1; rw [List.mem_singleton.1 hm] at this; omega)
  obtain ⟨c0, c1⟩ := iCells2 hr1
  have hn1 := Nat.le_trans hn ho1.size
  go_wp2_with (at_builtin; refine step_bs rfl (.tmp 12) (.tmp 13) rfl n0 v l rfl hown1 s rfl hlen hn1 ?_; intro v8 u8 hO8 hg8 hat8; obtain ⟨A8, c8, e8⟩ := hO8.form; rw [show (l ++ Dg.L s).length = l.length + s.size by rw [List.length_append, Dg.len_L]] at e8; subst e8; have hr8 : u8.heap[bb]? = some (.cells #[.pointer (some ⟨bb, 0, none⟩), v] 130 (0, 0)) := (hg8.block bb (lt_of_block hr1) (fun e => by have := (hown1.lt e.symm).1; omega)).trans hr1; have q8 := (iCells2 hr8).2; have fz8 := frozen_of_row _ bb 1 _ _ hr8)
  go_ret2
  refine ⟨⟨_, rfl⟩, _, ⟨⟨.pointer (some ⟨bb, 0, none⟩), Or.inr rfl, setCell_rowN hr8 1 _⟩, hO8.same fun g hg => Below.heap_setCell _ _ _ _ (show g ≠ bb by have := (hO8.lt hg).1; omega)⟩, ?_, fun g hg => ?_⟩
  · exact (((ho1.wide (fun g hg => by rw [List.mem_singleton.1 hg]; exact List.mem_cons_self ..)).trans (Off.of_grown (S := outS bb v) hg8 (fun g hg => outS_own hg)) (fun _ h => Or.inl h)).setCell (p := ⟨bb, 1, none⟩) (List.mem_cons_self ..) _)
  · rcases hat8 with e | e
    · exact Or.inl (e.symm.trans hg)
    · rw [e] at hg
      cases hg
      exact Or.inr ho1.size
end Go.Proofs.YtobhpeockinnjaaGreatDoor
/- A result in a cell; proofs in their variables. No conditions but those that each theorem states. -/
namespace Go.Proofs.YtobhpeockinnjaaGreatDoor
open Go Go.RowKit Go.Sort Go.Maps
theorem results_ct {fn : Func} {p u : Tmp} {ty : TypeId} (h : fn.results = #[.cell p ty, .tmp u]) (tmps : Array Value) (w : World) (g : Nat) (t : TypeId) (cs : Array Value) (fr : Nat × Nat) (fs : Array Field)
    (hp : tmps.getD p undef = .pointer (some ⟨g, 0, none⟩)) (hg : w.heap[g]? = some (.cells cs t fr))
    (hu : Tryz.prog.underlying ty = some (.struct fs)) (hi : (Tryz.prog.info? ty).map (·.size) = some cs.size) :
    (results fn tmps).run Tryz.prog w = .ok (.tuple #[.agg cs, tmps.getD u undef]) w := by
  rw [results_cell_tmp h, hp]
  simp only [asAddr, Sem.run_pure, Result.andThen_ok]
  rw [run_loadVar_row w g t ty cs fr (.struct fs) hg hu rfl hi]
  rfl
/-- Ten cells written. -/
def set10 (X : World) (g : Nat) (v0 v1 v2 v3 v4 v5 v6 v7 v8 v9 : Value) : World := ((((((((((X.setCell ⟨g, 0, none⟩ v0).setCell ⟨g, 1, none⟩ v1).setCell ⟨g, 2, none⟩ v2).setCell ⟨g, 3, none⟩ v3).setCell ⟨g, 4, none⟩ v4).setCell ⟨g, 5, none⟩ v5).setCell ⟨g, 6, none⟩ v6).setCell ⟨g, 7, none⟩ v7).setCell ⟨g, 8, none⟩ v8).setCell ⟨g, 9, none⟩ v9)
theorem set10_row {X : World} {g : Nat} {a0 a1 a2 a3 a4 a5 a6 a7 a8 a9 : Value} {T : TypeId} (h : X.heap[g]? = some (.cells #[a0, a1, a2, a3, a4, a5, a6, a7, a8, a9] T (0, 0))) (v0 v1 v2 v3 v4 v5 v6 v7 v8 v9 : Value) : (set10 X g v0 v1 v2 v3 v4 v5 v6 v7 v8 v9).heap[g]? = some (.cells #[v0, v1, v2, v3, v4, v5, v6, v7, v8, v9] T (0, 0)) := by
  have h0 := setCell_rowN h 0 v0
  simp only [List.setIfInBounds_toArray, List.set_cons_zero] at h0
  have h1 := setCell_rowN h0 1 v1
  simp only [List.setIfInBounds_toArray, List.set_cons_zero, List.set_cons_succ] at h1
  have h2 := setCell_rowN h1 2 v2
  simp only [List.setIfInBounds_toArray, List.set_cons_zero, List.set_cons_succ] at h2
  have h3 := setCell_rowN h2 3 v3
  simp only [List.setIfInBounds_toArray, List.set_cons_zero, List.set_cons_succ] at h3
  have h4 := setCell_rowN h3 4 v4
  simp only [List.setIfInBounds_toArray, List.set_cons_zero, List.set_cons_succ] at h4
  have h5 := setCell_rowN h4 5 v5
  simp only [List.setIfInBounds_toArray, List.set_cons_zero, List.set_cons_succ] at h5
  have h6 := setCell_rowN h5 6 v6
  simp only [List.setIfInBounds_toArray, List.set_cons_zero, List.set_cons_succ] at h6
  have h7 := setCell_rowN h6 7 v7
  simp only [List.setIfInBounds_toArray, List.set_cons_zero, List.set_cons_succ] at h7
  have h8 := setCell_rowN h7 8 v8
  simp only [List.setIfInBounds_toArray, List.set_cons_zero, List.set_cons_succ] at h8
  have h9 := setCell_rowN h8 9 v9
  simp only [List.setIfInBounds_toArray, List.set_cons_zero, List.set_cons_succ] at h9
  unfold set10
  exact h9
theorem set10_below {B : Nat} {a X : World} {g : Nat} (hb : Below B a X) (hg : B ≤ g) (v0 v1 v2 v3 v4 v5 v6 v7 v8 v9 : Value) : Below B a (set10 X g v0 v1 v2 v3 v4 v5 v6 v7 v8 v9) := by
  unfold set10
  exact (((((((((hb.setCell (p := ⟨g, 0, none⟩) hg v0).setCell (p := ⟨g, 1, none⟩) hg v1).setCell (p := ⟨g, 2, none⟩) hg v2).setCell (p := ⟨g, 3, none⟩) hg v3).setCell (p := ⟨g, 4, none⟩) hg v4).setCell (p := ⟨g, 5, none⟩) hg v5).setCell (p := ⟨g, 6, none⟩) hg v6).setCell (p := ⟨g, 7, none⟩) hg v7).setCell (p := ⟨g, 8, none⟩) hg v8).setCell (p := ⟨g, 9, none⟩) hg v9
theorem set10_size (X : World) (g : Nat) (v0 v1 v2 v3 v4 v5 v6 v7 v8 v9 : Value) : (set10 X g v0 v1 v2 v3 v4 v5 v6 v7 v8 v9).heap.size = X.heap.size := by
  unfold set10
  simp [World.setCell]
theorem frz10 {X : World} {g : Nat} {cs : Array Value} {T : TypeId} (h : X.heap[g]? = some (.cells cs T (0, 0))) : X.frozen? ⟨g, 0, none⟩ = false ∧ X.frozen? ⟨g, 1, none⟩ = false ∧ X.frozen? ⟨g, 2, none⟩ = false ∧ X.frozen? ⟨g, 3, none⟩ = false ∧ X.frozen? ⟨g, 4, none⟩ = false ∧ X.frozen? ⟨g, 5, none⟩ = false ∧ X.frozen? ⟨g, 6, none⟩ = false ∧ X.frozen? ⟨g, 7, none⟩ = false ∧ X.frozen? ⟨g, 8, none⟩ = false ∧ X.frozen? ⟨g, 9, none⟩ = false := by
  refine ⟨?_, ?_, ?_, ?_, ?_, ?_, ?_, ?_, ?_, ?_⟩ <;> exact frozen_of_row _ _ _ _ _ h
theorem strs_set {X : World} {B : Nat} {A : Option Addr} {l : List ByteArray} (h : Strs X B A l) {p : Addr} {u : Value} (hc : X.cell? p = some u) (hu : ∀ s ∈ l, u ≠ .string s) (v : Value) : Strs (X.setCell p v) B A l :=
  ⟨fun h0 => by
    obtain ⟨b, off, e, hb, hcs⟩ := h.at_ h0
    refine ⟨b, off, e, hb, fun j s hj => (World.cell?_setCell_other _ _ _ _ fun e2 => hu s (List.mem_of_getElem? hj) ?_).trans (hcs j s hj)⟩
    have := hcs j s hj
    rw [← e2, hc] at this
    injection this⟩
theorem strs_set10 {X : World} {B : Nat} {A : Option Addr} {l : List ByteArray} {g : Nat} {a0 a1 a2 a3 a4 a5 a6 a7 a8 a9 : Value} {T : TypeId} (h : Strs X B A l) (hr : X.heap[g]? = some (.cells #[a0, a1, a2, a3, a4, a5, a6, a7, a8, a9] T (0, 0))) (hu : ∀ s ∈ l, ∀ u : Value, u ∈ [a0, a1, a2, a3, a4, a5, a6, a7, a8, a9] → u ≠ .string s) (v0 v1 v2 v3 v4 v5 v6 v7 v8 v9 : Value) : Strs (set10 X g v0 v1 v2 v3 v4 v5 v6 v7 v8 v9) B A l := by
  obtain ⟨z0, z1, z2, z3, z4, z5, z6, z7, z8, z9⟩ := jCells10 hr
  have h0 := strs_set h z0 (fun s hs => hu s hs _ (by simp)) v0
  have r0 := setCell_rowN hr 0 v0
  simp only [List.setIfInBounds_toArray, List.set_cons_zero] at r0
  have h1 := strs_set h0 (jCells10 r0).2.1 (fun s hs => hu s hs _ (by simp)) v1
  have r1 := setCell_rowN r0 1 v1
  simp only [List.setIfInBounds_toArray, List.set_cons_zero, List.set_cons_succ] at r1
  have h2 := strs_set h1 (jCells10 r1).2.2.1 (fun s hs => hu s hs _ (by simp)) v2
  have r2 := setCell_rowN r1 2 v2
  simp only [List.setIfInBounds_toArray, List.set_cons_zero, List.set_cons_succ] at r2
  have h3 := strs_set h2 (jCells10 r2).2.2.2.1 (fun s hs => hu s hs _ (by simp)) v3
  have r3 := setCell_rowN r2 3 v3
  simp only [List.setIfInBounds_toArray, List.set_cons_zero, List.set_cons_succ] at r3
  have h4 := strs_set h3 (jCells10 r3).2.2.2.2.1 (fun s hs => hu s hs _ (by simp)) v4
  have r4 := setCell_rowN r3 4 v4
  simp only [List.setIfInBounds_toArray, List.set_cons_zero, List.set_cons_succ] at r4
  have h5 := strs_set h4 (jCells10 r4).2.2.2.2.2.1 (fun s hs => hu s hs _ (by simp)) v5
  have r5 := setCell_rowN r4 5 v5
  simp only [List.setIfInBounds_toArray, List.set_cons_zero, List.set_cons_succ] at r5
  have h6 := strs_set h5 (jCells10 r5).2.2.2.2.2.2.1 (fun s hs => hu s hs _ (by simp)) v6
  have r6 := setCell_rowN r5 6 v6
  simp only [List.setIfInBounds_toArray, List.set_cons_zero, List.set_cons_succ] at r6
  have h7 := strs_set h6 (jCells10 r6).2.2.2.2.2.2.2.1 (fun s hs => hu s hs _ (by simp)) v7
  have r7 := setCell_rowN r6 7 v7
  simp only [List.setIfInBounds_toArray, List.set_cons_zero, List.set_cons_succ] at r7
  have h8 := strs_set h7 (jCells10 r7).2.2.2.2.2.2.2.2.1 (fun s hs => hu s hs _ (by simp)) v8
  have r8 := setCell_rowN r7 8 v8
  simp only [List.setIfInBounds_toArray, List.set_cons_zero, List.set_cons_succ] at r8
  have h9 := strs_set h8 (jCells10 r8).2.2.2.2.2.2.2.2.2 (fun s hs => hu s hs _ (by simp)) v9
  have r9 := setCell_rowN r8 9 v9
  simp only [List.setIfInBounds_toArray, List.set_cons_zero, List.set_cons_succ] at r9
  unfold set10
  exact h9
/-- Make's variables. -/
structure MS (w : World) (A : Option Addr) (n c : Nat) (b7 : Nat) (cnt idx : Int) (x : Dg.It) (PP : Value) (X : World) : Prop where
  r2 : X.heap[w.heap.size]? = some (.cells #[.slice A n c] 24 (0, 0))
  r4 : X.heap[w.heap.size + 1 + 1]? = some (.cells #[.int .i64 0, .int .i64 0, .int .i64 0, .string ⟨#[]⟩, .string ⟨#[]⟩, .string ⟨#[]⟩, .string ⟨#[]⟩, .string ⟨#[]⟩, .bool false, .slice none 0 0] 29 (0, 0))
  r7 : X.heap[b7]? = some (.cells #[.int .i64 cnt, .int .i64 idx, .int .i64 x.kind, .string x.id, .string x.parent, .string x.number, .string x.north, .string x.south, .bool x.gone, PP] 29 (0, 0))
  bel : Below w.heap.size w X
  lt : w.heap.size + 1 + 1 < b7
theorem MS.next {w : World} {A : Option Addr} {n c b7 : Nat} {cnt idx : Int} {x : Dg.It} {PP : Value} {X X' : World} (h : MS w A n c b7 cnt idx x PP X) (hb : Below X.heap.size X X') : MS w A n c b7 cnt idx x PP X' :=
  ⟨iNext h.r2 hb, iNext h.r4 hb, iNext h.r7 hb, bnext h.bel hb, h.lt⟩
theorem MS.setIdx {w : World} {A : Option Addr} {n c b7 : Nat} {cnt idx : Int} {x : Dg.It} {PP : Value} {X : World} (h : MS w A n c b7 cnt idx x PP X) (i : Int) : MS w A n c b7 cnt i x PP (X.setCell ⟨b7, 1, none⟩ (.int .i64 i)) :=
  ⟨(Below.heap_setCell _ _ _ _ (by show w.heap.size ≠ b7; have := h.lt; omega)).trans h.r2, (Below.heap_setCell _ _ _ _ (by show w.heap.size + 1 + 1 ≠ b7; have := h.lt; omega)).trans h.r4, setCell_rowN h.r7 1 _, h.bel.setCell (p := ⟨b7, 1, none⟩) (by show w.heap.size ≤ b7; have := h.lt; omega) _, h.lt⟩
theorem MS.setCnt {w : World} {A : Option Addr} {n c b7 : Nat} {cnt idx : Int} {x : Dg.It} {PP : Value} {X : World} (h : MS w A n c b7 cnt idx x PP X) (i : Int) : MS w A n c b7 i idx x PP (X.setCell ⟨b7, 0, none⟩ (.int .i64 i)) :=
  ⟨(Below.heap_setCell _ _ _ _ (by show w.heap.size ≠ b7; have := h.lt; omega)).trans h.r2, (Below.heap_setCell _ _ _ _ (by show w.heap.size + 1 + 1 ≠ b7; have := h.lt; omega)).trans h.r4, setCell_rowN h.r7 0 _, h.bel.setCell (p := ⟨b7, 0, none⟩) (by show w.heap.size ≤ b7; have := h.lt; omega) _, h.lt⟩
theorem MS.setPath {w : World} {A : Option Addr} {n c b7 : Nat} {cnt idx : Int} {x : Dg.It} {PP : Value} {X : World} (h : MS w A n c b7 cnt idx x PP X) (v : Value) : MS w A n c b7 cnt idx x v (X.setCell ⟨b7, 9, none⟩ v) :=
  ⟨(Below.heap_setCell _ _ _ _ (by show w.heap.size ≠ b7; have := h.lt; omega)).trans h.r2, (Below.heap_setCell _ _ _ _ (by show w.heap.size + 1 + 1 ≠ b7; have := h.lt; omega)).trans h.r4, setCell_rowN h.r7 9 _, h.bel.setCell (p := ⟨b7, 9, none⟩) (by show w.heap.size ≤ b7; have := h.lt; omega) _, h.lt⟩
def noPf : Pf := ⟨0, 0, ⟨0, ⟨#[]⟩, ⟨#[]⟩, ⟨#[]⟩, ⟨#[]⟩, ⟨#[]⟩, false⟩, []⟩
/-- How many items ahead of a place are not gone. -/
def idxN (l : List Dg.It) (k : Nat) : Nat := (l.take k).countP fun x => !x.gone
theorem idxN_succ {l : List Dg.It} {k : Nat} (hk : k < l.length) : idxN l (k + 1) = idxN l k + (if l[k].gone = true then 0 else 1) := by
  unfold idxN
  rw [List.take_succ_eq_append_getElem hk, List.countP_append, List.countP_singleton]
  cases l[k].gone <;> rfl
theorem idxN_le (l : List Dg.It) (k : Nat) : idxN l k ≤ k := Nat.le_trans List.countP_le_length (by rw [List.length_take]; omega)
theorem idxN_all (l : List Dg.It) : idxN l l.length = (Dg.leavesOf l).length := by
  unfold idxN
  rw [List.take_length, Dg.leaves_len]
theorem idxN_mono (l : List Dg.It) {j k : Nat} (h : j ≤ k) : idxN l j ≤ idxN l k := by
  unfold idxN
  rw [show l.take j = (l.take k).take j by rw [List.take_take, Nat.min_eq_left h]]
  exact (List.take_sublist j (l.take k)).countP_le
/-- What Make makes. -/
def makeE (l : List Dg.It) (id : ByteArray) : Pf × Int :=
  if Dg.validC l = false then (noPf, 1)
  else match l.findIdx? (fun x => decide (x.id = id)) with
    | none => (noPf, 11)
    | some k => match l[k]? with
      | none => (noPf, 11)
      | some x => if x.gone = true then (noPf, 16) else (⟨((Dg.leavesOf l).length : Nat), (idxN l k : Nat), Dg.bareI x, Dg.path (Dg.leavesOf l) (idxN l k)⟩, 0)
theorem findX_cases (l : List Dg.It) (id : ByteArray) : (l.findIdx? (fun x => decide (x.id = id)) = none ∧ findX l id = -1) ∨ ∃ k, ∃ (h : k < l.length), l.findIdx? (fun x => decide (x.id = id)) = some k ∧ findX l id = (k : Int) ∧ l[k].id = id := by
  cases h : l.findIdx? (fun x => decide (x.id = id)) with
  | none => exact Or.inl ⟨rfl, by unfold findX; rw [h]⟩
  | some k =>
    obtain ⟨hk, h1, _⟩ := List.findIdx?_eq_some_iff_getElem.1 h
    exact Or.inr ⟨k, hk, rfl, by unfold findX; rw [h], of_decide_eq_true h1⟩
end Go.Proofs.YtobhpeockinnjaaGreatDoor
/- Make of package proof. No conditions but those that each theorem states. -/
namespace Go.Proofs.YtobhpeockinnjaaGreatDoor
open Go Go.RowKit Go.Sort Go.Maps
set_option maxHeartbeats 4000000 in
theorem mk1_any (x : Dg.It) (id : ByteArray) (b3 : Nat) (w : World) (r3 : w.heap[b3]? = some (.cells #[.string id] 9 (0, 0))) (R : Bool) (hR : (x.id.toList == id.toList) = R) :
    Calls Tryz.prog 43 #[.agg #[.int .i64 x.kind, .string x.id, .string x.parent, .string x.number, .string x.north, .string x.south, .bool x.gone], .pointer (some ⟨b3, 0, none⟩)] w fun e w' => e = .returned (.bool R) ∧ Below w.heap.size w w' := by
  have hb0 := Below.news (Below.refl w.heap.size w) (.cells #[.int .i64 x.kind, .string x.id, .string x.parent, .string x.number, .string x.north, .string x.south, .bool x.gone] 26)
  have hx0 := heap_alloc_new w (.cells #[.int .i64 x.kind, .string x.id, .string x.parent, .string x.number, .string x.north, .string x.south, .bool x.gone] 26)
  have c3 := iCells0 (iNext r3 hb0)
  obtain ⟨c0, c1, _⟩ := iCells hx0
  go_enter Tryz.func43, Tryz.ntmps43
  go_wp2
  go_ret
  exact ⟨rfl, hb0⟩
set_option maxHeartbeats 4000000 in
theorem mkf_any (l : List Dg.It) (A : Option Addr) (n c : Nat) (hl : l.length = n) (hn : n ≤ 1048576) (id : ByteArray) (b3 : Nat) (w : World) (hI : Its w w.heap.size A l) (r3 : w.heap[b3]? = some (.cells #[.string id] 9 (0, 0))) (K0 : Int) (hK0 : findX l id = K0) :
    Calls Tryz.prog 42 #[.slice A n c, .func (.func 43) #[] #[.pointer (some ⟨b3, 0, none⟩)]] w fun e w' => e = .returned (.int .i64 K0) ∧ Below w.heap.size w w' := by
  have HL := hide hl; have HK0 := hide hK0; have HI := hide hI; have HR3 := hide r3
  clear hl hK0 hI r3
  go_enter Tryz.func42, Tryz.ntmps42
  go_wp2
  go_loopw [8] (fun i wr => ∃ k : Nat, k ≤ n ∧ i = .int .i64 k ∧ Below w.heap.size w wr ∧ Hid (∀ x ∈ l.take k, x.id ≠ id)) (fun i _ => n - (intOf i).toNat)
  case atStart => exact ⟨0, by omega, rfl, Below.refl _ _, fun x hx => by simp at hx⟩
  case round =>
    obtain ⟨k, hk, rfl, hb, hall⟩ := hrel
    by_cases hlt : k < n
    · have hkl : k < l.length := by rw [HL.out]; exact hlt
      have hIr := HI.out.below hb
      obtain ⟨b, off, rfl⟩ := hIr.some hkl
      obtain ⟨x, hx⟩ : ∃ x, l[k] = x := ⟨_, rfl⟩
      obtain ⟨hbl, p0, p1, p2, p3, p4, p5, p6⟩ := hIr.cells hkl x hx
      have HX := hide hx
      clear hx hIr
      have hk0 : (0 : Int) ≤ (k : Int) := by omega
      have hkn : (k : Int) < (n : Int) := by omega
      go_wp2_with fail
      clear p0 p1 p2 p3 p4 p5 p6
      obtain ⟨R, hR⟩ : ∃ R, (x.id.toList == id.toList) = R := ⟨_, rfl⟩
      refine (mk1_any x id b3 _ (iNext HR3.out hb) R hR).mono ?_
      rintro e w2 ⟨rfl, hb2⟩
      have hb3 := bnext hb hb2
      cases R with
      | true =>
        have HF := hide (show (k : Int) = K0 by rw [← HK0.out]; exact (findX_at hkl (by rw [HX.out]; exact (Lib.bytes_beq_iff _ _).1 hR) hall.out).symm)
        clear hR
        go_wp2
        go_ret
        exact ⟨retI HF.out, hb3⟩
      | false =>
        have hne : x.id ≠ id := (Lib.bytes_beq_false_iff _ _).1 hR
        have HA : Hid (∀ y ∈ l.take (k + 1), y.id ≠ id) := fun y hy => by
          rw [List.take_succ_eq_append_getElem hkl, HX.out] at hy
          rcases List.mem_append.1 hy with h | h
          · exact hall.out y h
          · rw [List.mem_singleton.1 h]; exact hne
        clear hR hne
        go_wp2
        go_roundw
        case rel => exact ⟨k + 1, by omega, by go_num, hb3, HA⟩
        case measure => simp [intOf]; omega
    · obtain rfl : k = n := by omega
      have HF := hide (show (-1 : Int) = K0 by rw [← HK0.out]; exact (findX_none (by have h := hall.out; rw [← HL.out, List.take_length] at h; exact h)).symm)
      go_wp2
      go_ret
      exact ⟨retI HF.out, hb⟩
theorem few_up2 {l : List Dg.It} {z y : Nat} (h : ∀ x ∈ l, ∀ s ∈ Dg.fieldsI x, s.size ≤ z) (hzy : z ≤ y) : ∀ x ∈ l, ∀ s ∈ Dg.fieldsI x, s.size ≤ y := fun x hx s hs => Nat.le_trans (h x hx s hs) hzy
set_option maxRecDepth 100000 in
set_option maxHeartbeats 16000000 in
theorem pmake_of (l : List Dg.It) (A : Option Addr) (n c : Nat) (hl : l.length = n) (hw : ∀ x ∈ l, ItW x) (hn : n ≤ 10000) (hnc : n ≤ c) (hz : ∀ x ∈ l, ∀ s ∈ Dg.fieldsI x, s.size ≤ 10000) (id : ByteArray) (w : World) (he : Env w) (hI : Its w w.heap.size A l) (p : Pf) (E : Int) (hE : makeE l id = (p, E)) :
    Calls Tryz.prog 14 #[.agg #[.slice A n c], .string id] w fun e w' => ∃ A9 c9, e = .returned (.tuple #[.agg #[.int .i64 p.count, .int .i64 p.idx, .int .i64 p.it.kind, .string p.it.id, .string p.it.parent, .string p.it.number, .string p.it.north, .string p.it.south, .bool p.it.gone, .slice A9 p.path.length c9], .int .i64 E]) ∧ p.path.length ≤ c9 ∧ Strs w' w'.heap.size A9 p.path ∧ Below w.heap.size w w' := by
  have r2 := iNext (iNext (heap_alloc_new w (.cells #[.slice A n c] 24)) (Below.news (Below.refl _ _) (.cells #[.string id] 9))) (Below.news (Below.refl _ _) (.cells #[.int .i64 0, .int .i64 0, .int .i64 0, .string ⟨#[]⟩, .string ⟨#[]⟩, .string ⟨#[]⟩, .string ⟨#[]⟩, .string ⟨#[]⟩, .bool false, .slice none 0 0] 29))
  have hs1 : (w.alloc (.cells #[.slice A n c] 24)).heap.size = w.heap.size + 1 := by simp
  have r3 := iNext (heap_alloc_new (w.alloc (.cells #[.slice A n c] 24)) (.cells #[.string id] 9)) (Below.news (Below.refl _ _) (.cells #[.int .i64 0, .int .i64 0, .int .i64 0, .string ⟨#[]⟩, .string ⟨#[]⟩, .string ⟨#[]⟩, .string ⟨#[]⟩, .string ⟨#[]⟩, .bool false, .slice none 0 0] 29))
  have r4 := heap_alloc_new ((w.alloc (.cells #[.slice A n c] 24)).alloc (.cells #[.string id] 9)) (.cells #[.int .i64 0, .int .i64 0, .int .i64 0, .string ⟨#[]⟩, .string ⟨#[]⟩, .string ⟨#[]⟩, .string ⟨#[]⟩, .string ⟨#[]⟩, .bool false, .slice none 0 0] 29)
  have hs2 : ((w.alloc (.cells #[.slice A n c] 24)).alloc (.cells #[.string id] 9)).heap.size = w.heap.size + 1 + 1 := by simp
  have hb := bnext (bnext (Below.news (Below.refl w.heap.size w) (.cells #[.slice A n c] 24)) (Below.news (Below.refl _ _) (.cells #[.string id] 9))) (Below.news (Below.refl _ _) (.cells #[.int .i64 0, .int .i64 0, .int .i64 0, .string ⟨#[]⟩, .string ⟨#[]⟩, .string ⟨#[]⟩, .string ⟨#[]⟩, .string ⟨#[]⟩, .bool false, .slice none 0 0] 29))
  rw [hs1] at r3
  rw [hs2] at r4
  have HL := hide hl; have HW := hide hw; have HZ := hide hz; have HI := hide hI; have HEV := hide he; have HE := hide hE
  clear hl hw hz hI he hE hs1 hs2
  have hmf : ∀ (fn : Fn) (first cap : Array Value) (w : World), (Instr.makeFunc fn first cap).run Tryz.prog w = .ok (.func fn first cap) w := fun _ _ _ _ => rfl
  go_enter Tryz.func14, Tryz.ntmps14
  go_upto_region 1 with (fail)
  generalize ((w.alloc (.cells #[.slice A n c] 24)).alloc (.cells #[.string id] 9)).alloc (.cells #[.int .i64 0, .int .i64 0, .int .i64 0, .string ⟨#[]⟩, .string ⟨#[]⟩, .string ⟨#[]⟩, .string ⟨#[]⟩, .string ⟨#[]⟩, .bool false, .slice none 0 0] 29) = w1 at *
  have hc2 := iCells0 r2
  go_wp2_with fail
  obtain ⟨V, hV⟩ : ∃ V, Dg.validC l = V := ⟨_, rfl⟩
  refine (Code.valid_of l A n c HL.out HW.out (by omega) w1 ((HI.out.below hb).more hb.size) V hV).mono ?_
  rintro e w2 ⟨rfl, hx⟩
  have r2' := iNext r2 hx
  have r3' := iNext r3 hx
  have r4' := iNext r4 hx
  have hb2 := bnext hb hx
  clear r2 r3 r4 hb hx hc2
  cases V with
  | false =>
    have E9 := hide (show makeE l id = (noPf, 1) by unfold makeE; rw [if_pos hV])
    have hp9 : (p, E) = (noPf, 1) := by rw [← HE.out, E9.out]
    have HP := hide hp9
    clear hp9
    obtain ⟨zc0, zc1, zc2, zc3, zc4, zc5, zc6, zc7, zc8, zc9⟩ := jCells10 r4'
    obtain ⟨zf0, zf1, zf2, zf3, zf4, zf5, zf6, zf7, zf8, zf9⟩ := frz10 r4'
    go_wp2
    refine bodyPost_ret (results_ct Tryz.results14 _ _ (w.heap.size + 1 + 1) 29 #[.int .i64 0, .int .i64 0, .int .i64 0, .string ⟨#[]⟩, .string ⟨#[]⟩, .string ⟨#[]⟩, .string ⟨#[]⟩, .string ⟨#[]⟩, .bool false, .slice none 0 0] (0, 0) _ rfl (set10_row r4' (.int .i64 0) (.int .i64 0) (.int .i64 0) (.string ⟨#[]⟩) (.string ⟨#[]⟩) (.string ⟨#[]⟩) (.string ⟨#[]⟩) (.string ⟨#[]⟩) (.bool false) (.slice none 0 0)) Tryz.underlying29 (by kernel_rfl)) rfl ⟨none, 0, ?_, ?_, ?_, set10_below hb2 (by omega) (.int .i64 0) (.int .i64 0) (.int .i64 0) (.string ⟨#[]⟩) (.string ⟨#[]⟩) (.string ⟨#[]⟩) (.string ⟨#[]⟩) (.string ⟨#[]⟩) (.bool false) (.slice none 0 0)⟩
    · have := HP.out; injection this with h1 h2; rw [h1, h2]; rfl
    · have := HP.out; injection this with h1 h2; rw [h1]; exact Nat.le_refl _
    · have := HP.out; injection this with h1 h2; rw [h1]; exact Strs.nil _ _ _
  | true =>
    have hc2 := iCells0 r2'
    go_wp2_with fail
    rcases findX_cases l id with ⟨hf1, hf2⟩ | ⟨k, hk, hf1, hf2, hf3⟩
    · refine (mkf_any l A n c HL.out (by omega) id (w.heap.size + 1) w2 ((HI.out.below hb2).more hb2.size) r3' (-1) hf2).mono ?_
      rintro e w3 ⟨rfl, hx⟩
      have r4 := iNext r4' hx
      have hb3 := bnext hb2 hx
      clear r2' r3' r4' hb2 hx hc2
      have E9 := hide (show makeE l id = (noPf, 11) by unfold makeE; rw [if_neg (by rw [hV]; decide), hf1])
      have hp9 : (p, E) = (noPf, 11) := by rw [← HE.out, E9.out]
      have HP := hide hp9
      clear hp9
      obtain ⟨zc0, zc1, zc2, zc3, zc4, zc5, zc6, zc7, zc8, zc9⟩ := jCells10 r4
      obtain ⟨zf0, zf1, zf2, zf3, zf4, zf5, zf6, zf7, zf8, zf9⟩ := frz10 r4
      go_wp2
      refine bodyPost_ret (results_ct Tryz.results14 _ _ (w.heap.size + 1 + 1) 29 #[.int .i64 0, .int .i64 0, .int .i64 0, .string ⟨#[]⟩, .string ⟨#[]⟩, .string ⟨#[]⟩, .string ⟨#[]⟩, .string ⟨#[]⟩, .bool false, .slice none 0 0] (0, 0) _ rfl (set10_row r4 (.int .i64 0) (.int .i64 0) (.int .i64 0) (.string ⟨#[]⟩) (.string ⟨#[]⟩) (.string ⟨#[]⟩) (.string ⟨#[]⟩) (.string ⟨#[]⟩) (.bool false) (.slice none 0 0)) Tryz.underlying29 (by kernel_rfl)) rfl ⟨none, 0, ?_, ?_, ?_, set10_below hb3 (by omega) (.int .i64 0) (.int .i64 0) (.int .i64 0) (.string ⟨#[]⟩) (.string ⟨#[]⟩) (.string ⟨#[]⟩) (.string ⟨#[]⟩) (.string ⟨#[]⟩) (.bool false) (.slice none 0 0)⟩
      · have := HP.out; injection this with h1 h2; rw [h1, h2]; rfl
      · have := HP.out; injection this with h1 h2; rw [h1]; exact Nat.le_refl _
      · have := HP.out; injection this with h1 h2; rw [h1]; exact Strs.nil _ _ _
    · have HF := hide (And.intro hf1 hf3)
      refine (mkf_any l A n c HL.out (by omega) id (w.heap.size + 1) w2 ((HI.out.below hb2).more hb2.size) r3' (k : Int) hf2).mono ?_
      rintro e w3 ⟨rfl, hx⟩
      have r2 := iNext r2' hx
      have r4 := iNext r4' hx
      have hb3 := bnext hb2 hx
      clear r2' r3' r4' hb2 hx hc2 hf1 hf2 hf3
      have hkn : (k : Int) < (n : Int) := by have := HL.out; omega
      have hk0 : (0 : Int) ≤ (k : Int) := by omega
      obtain ⟨b, off, rfl⟩ := (HI.out.below hb3).some hk
      obtain ⟨x, hx⟩ : ∃ x, l[k] = x := ⟨_, rfl⟩
      obtain ⟨_, p0, p1, p2, p3, p4, p5, p6⟩ := (HI.out.below hb3).cells hk x hx
      have hc2 := iCells0 r2
      cases hg : x.gone with
      | true =>
        rw [hg] at p6
        have E9 := hide (show makeE l id = (noPf, 16) by unfold makeE; rw [if_neg (by rw [hV]; decide), HF.out.1]; simp only [List.getElem?_eq_getElem hk, hx, hg, if_pos])
        have hp9 : (p, E) = (noPf, 16) := by rw [← HE.out, E9.out]
        have HP := hide hp9
        clear hp9
        obtain ⟨zc0, zc1, zc2, zc3, zc4, zc5, zc6, zc7, zc8, zc9⟩ := jCells10 r4
        obtain ⟨zf0, zf1, zf2, zf3, zf4, zf5, zf6, zf7, zf8, zf9⟩ := frz10 r4
        go_wp2
        refine bodyPost_ret (results_ct Tryz.results14 _ _ (w.heap.size + 1 + 1) 29 #[.int .i64 0, .int .i64 0, .int .i64 0, .string ⟨#[]⟩, .string ⟨#[]⟩, .string ⟨#[]⟩, .string ⟨#[]⟩, .string ⟨#[]⟩, .bool false, .slice none 0 0] (0, 0) _ rfl (set10_row r4 (.int .i64 0) (.int .i64 0) (.int .i64 0) (.string ⟨#[]⟩) (.string ⟨#[]⟩) (.string ⟨#[]⟩) (.string ⟨#[]⟩) (.string ⟨#[]⟩) (.bool false) (.slice none 0 0)) Tryz.underlying29 (by kernel_rfl)) rfl ⟨none, 0, ?_, ?_, ?_, set10_below hb3 (by omega) (.int .i64 0) (.int .i64 0) (.int .i64 0) (.string ⟨#[]⟩) (.string ⟨#[]⟩) (.string ⟨#[]⟩) (.string ⟨#[]⟩) (.string ⟨#[]⟩) (.bool false) (.slice none 0 0)⟩
        · have := HP.out; injection this with h1 h2; rw [h1, h2]; rfl
        · have := HP.out; injection this with h1 h2; rw [h1]; exact Nat.le_refl _
        · have := HP.out; injection this with h1 h2; rw [h1]; exact Strs.nil _ _ _
      | false =>
        have hix : idxN l k < (Dg.leavesOf l).length := by
          rw [← idxN_all]
          have h1 := idxN_succ hk
          rw [hx, hg, if_neg (by decide)] at h1
          have h2 := idxN_mono l (j := k + 1) (k := l.length) (by omega)
          omega
        have hmk := HE.out
        unfold makeE at hmk
        rw [if_neg (by rw [hV]; decide), HF.out.1] at hmk
        simp only [List.getElem?_eq_getElem hk, hx, hg] at hmk
        rw [if_neg (by decide)] at hmk
        injection hmk with hmp hme
        have HG := hide hg; have HMP := hide hmp; have HME := hide hme; have HIX := hide hix; have HX := hide hx; have HVV := hide hV
        clear hmp hme hix hV
        rw [hg] at p6
        go_upto_region 9 with (fail)
        have hx7 := Below.news (Below.refl w3.heap.size w3) (.cells #[.int .i64 0, .int .i64 0, .int .i64 x.kind, .string x.id, .string x.parent, .string x.number, .string x.north, .string x.south, .bool false, .slice none 0 0] 29)
        have r7 := heap_alloc_new w3 (.cells #[.int .i64 0, .int .i64 0, .int .i64 x.kind, .string x.id, .string x.parent, .string x.number, .string x.north, .string x.south, .bool false, .slice none 0 0] 29)
        have hlt7 : w.heap.size + 1 + 1 < w3.heap.size := lt_of_block r4
        have r2b := iNext r2 hx7
        have r4b := iNext r4 hx7
        have hb7 := bnext hb3 hx7
        clear r2 r4 hb3 hx7 p0 p1 p2 p3 p4 p5 p6 hc2 hg hx
        generalize w3.alloc (.cells #[.int .i64 0, .int .i64 0, .int .i64 x.kind, .string x.id, .string x.parent, .string x.number, .string x.north, .string x.south, .bool false, .slice none 0 0] 29) = w4 at *
        generalize w3.heap.size = b7 at *
        obtain ⟨y0, y1, y2, y3, y4, y5, y6, y7, y8, y9⟩ := jCells10 r7
        have fz5 := frozen_of_row _ _ 5 _ _ r7
        have hc2 := iCells0 r2b
        go_upto_region 10 with (fail)
        obtain ⟨y, hy⟩ : ∃ y, Dg.bareI x = y := ⟨_, rfl⟩
        have hxg : x.gone = false := by
          have := HG.out
          exact this
        have hMS : MS w (some ⟨b, off, none⟩) n c b7 0 (idxN l 0 : Nat) y (.slice none 0 0) (w4.setCell ⟨b7, 5, none⟩ (.string ⟨#[]⟩)) := by
          refine ⟨(Below.heap_setCell _ _ _ _ (by show w.heap.size ≠ b7; omega)).trans r2b, (Below.heap_setCell _ _ _ _ (by show w.heap.size + 1 + 1 ≠ b7; omega)).trans r4b, ?_, hb7.setCell (p := ⟨b7, 5, none⟩) (by show w.heap.size ≤ b7; omega) _, hlt7⟩
          have h9 := setCell_rowN r7 5 (.string ⟨#[]⟩)
          simp only [List.setIfInBounds_toArray, List.set_cons_zero, List.set_cons_succ] at h9
          rw [h9, ← hy]
          unfold Dg.bareI
          simp only [hxg]
          rfl
        have HY := hide hy
        clear r2b r4b hb7 r7 y0 y1 y2 y3 y4 y5 y6 y7 y8 y9 fz5 hc2 hxg hy
        generalize w4.setCell ⟨b7, 5, none⟩ (.string ⟨#[]⟩) = w5 at *
        have hc2 := iCells0 hMS.r2
        have hkc : (k : Int) ≤ (c : Int) := by have := HL.out; omega
        go_wp2
        clear hc2
        go_loopw [44] (fun jv wr => ∃ j : Nat, j ≤ k ∧ jv = .int .i64 (j : Int) ∧ MS w (some ⟨b, off, none⟩) n c b7 0 (idxN l j : Nat) y (.slice none 0 0) wr) (fun jv _ => k - (intOf jv).toNat)
        case atStart => exact ⟨0, by omega, rfl, hMS⟩
        case round =>
          clear hMS
          obtain ⟨j, hj, rfl, hMS⟩ := hrel
          by_cases hlt : j < k
          · have hjl : j < l.length := by omega
            have hjk : (j : Int) < (k : Int) := by omega
            have hj0 : (0 : Int) ≤ (j : Int) := by omega
            obtain ⟨v, hv⟩ : ∃ v, l[j] = v := ⟨_, rfl⟩
            obtain ⟨_, p0, p1, p2, p3, p4, p5, p6⟩ := (HI.out.below hMS.bel).cells hjl v hv
            have hsn := idxN_succ hjl
            rw [hv] at hsn
            have hile := idxN_le l j
            have hjn : j ≤ 10000 := by have := HL.out; omega
            have HSN := hide hsn
            clear hsn hv
            have hx8 := Below.news (Below.refl wr.heap.size wr) (.cells #[.int .i64 v.kind, .string v.id, .string v.parent, .string v.number, .string v.north, .string v.south, .bool v.gone] 26)
            have r8 := heap_alloc_new wr (.cells #[.int .i64 v.kind, .string v.id, .string v.parent, .string v.number, .string v.north, .string v.south, .bool v.gone] 26)
            have hM8 := hMS.next hx8
            go_upto_region 13 with (fail)
            clear hMS hx8 p0 p1 p2 p3 p4 p5 p6
            generalize wr.alloc (.cells #[.int .i64 v.kind, .string v.id, .string v.parent, .string v.number, .string v.north, .string v.south, .bool v.gone] 26) = w8 at *
            generalize wr.heap.size = b8 at *
            obtain ⟨_, _, _, _, _, _, u6⟩ := iCells r8
            cases hvg : v.gone with
            | true =>
              rw [hvg] at u6 HSN
              go_wp2
              go_roundw
              case rel => exact ⟨j + 1, by omega, by go_num, by rw [HSN.out, if_pos rfl, Nat.add_zero]; exact hM8⟩
              case measure => simp [intOf]; omega
            | false =>
              rw [hvg] at u6 HSN
              obtain ⟨_, z1, _⟩ := jCells10 hM8.r7
              have fz1 := frozen_of_row _ _ 1 _ _ hM8.r7
              obtain ⟨q, hq⟩ : ∃ q, idxN l j = q := ⟨_, rfl⟩
              rw [hq] at z1 hile hM8
              have HQ := hide (show idxN l (j + 1) = q + 1 by rw [HSN.out, if_neg (by decide), hq])
              clear hq
              have hM9 := hM8.setIdx ((q : Int) + 1)
              go_wp2
              go_roundw
              case rel => exact ⟨j + 1, by omega, by go_num, by rw [HQ.out]; exact hM9⟩
              case measure => simp [intOf]; omega
          · obtain rfl : j = k := by omega
            have hc2 := iCells0 hMS.r2
            go_wp2_with fail
            obtain ⟨L, hL⟩ : ∃ L, Dg.leavesC l = L := ⟨_, rfl⟩
            have hLo : Dg.leavesOf l = L := by rw [← hL]; unfold Dg.leavesC; rw [if_pos HVV.out]
            refine (Code.leaves_of l (some ⟨b, off, none⟩) n c HL.out HW.out (by omega) wr (HEV.out.next hMS.bel) ((HI.out.below hMS.bel).more hMS.bel.size) (few_up2 HZ.out (by decide)) L hL).mono ?_
            rintro e w9 ⟨⟨A7, c7, rfl, hc7, hS7⟩, hx9⟩
            have hM9 := hMS.next hx9
            clear hMS hx9 hc2
            obtain ⟨m, hm⟩ : ∃ m, L.length = m := ⟨_, rfl⟩
            rw [hm] at hc7 ⊢
            have hmz : m ≤ 10000 := by rw [← hm, ← hLo, Dg.leaves_len]; exact Nat.le_trans List.countP_le_length (by have := HL.out; omega)
            have hzL : ∀ s ∈ L, s.size ≤ 1073741824 := by
              rw [← hLo]
              intro s hs
              unfold Dg.leavesOf at hs
              obtain ⟨v, hv, rfl⟩ := List.mem_map.1 hs
              exact Nat.le_trans (leafI_size (leafS_size (by decide) (fun s hs => Nat.le_trans (HZ.out v (List.mem_filter.1 hv).1 s hs) (by decide)))) (by decide)
            have hixm : idxN l j < m := by rw [← hm, ← hLo]; exact HIX.out
            have HLO := hide hLo; have HMM := hide hm; have HZL := hide hzL
            clear hL hLo hm hzL
            obtain ⟨z0, _⟩ := jCells10 hM9.r7
            have fz0 := frozen_of_row _ _ 0 _ _ hM9.r7
            go_upto_region 18 with (fail)
            have hM10 := hM9.setCnt (m : Int)
            have hS10 := strs_set hS7 z0 (fun s hs => by simp) (.int .i64 (m : Int))
            have hb10 := (Below.refl w9.heap.size w9).size
            have hsz : (w9.setCell ⟨b7, 0, none⟩ (.int .i64 (m : Int))).heap.size = w9.heap.size := by simp [World.setCell]
            rw [← hsz] at hS10
            clear hM9 hS7 z0 fz0 hsz hb10
            generalize w9.setCell ⟨b7, 0, none⟩ (.int .i64 (m : Int)) = w10 at *
            obtain ⟨_, z1, _⟩ := jCells10 hM10.r7
            go_wp2_with fail
            refine (path_any A7 c7 m L (idxN l j) w10 HMM.out (HEV.out.next hM10.bel) hc7 (by omega) HZL.out hS10 hixm).mono ?_
            rintro e w11 ⟨A9, c9, q, rfl, hq1, hq2, hS11, hx11⟩
            have hM11 := hM10.next hx11
            clear hM10 hS10 hx11 z1
            obtain ⟨_, _, _, _, _, _, _, _, _, z9⟩ := jCells10 hM11.r7
            have fz9 := frozen_of_row _ _ 9 _ _ hM11.r7
            go_upto_region 19 with (fail)
            have hM12 := hM11.setPath (.slice A9 q c9)
            have hS12 := strs_set hS11 z9 (fun s hs => by simp) (.slice A9 q c9)
            have hsz : (w11.setCell ⟨b7, 9, none⟩ (.slice A9 q c9)).heap.size = w11.heap.size := by simp [World.setCell]
            rw [← hsz] at hS12
            clear hM11 hS11 z9 fz9 hsz
            generalize w11.setCell ⟨b7, 9, none⟩ (.slice A9 q c9) = w12 at *
            have hpp : p = ⟨(m : Int), (idxN l j : Nat), y, Dg.path L (idxN l j)⟩ := by
              rw [← HMP.out, HLO.out, HMM.out, HY.out]
            have hpz : ∀ s ∈ Dg.path L (idxN l j), s.size = 16 := fun s hs => (Dg.path_sizes L.length L (idxN l j) rfl s hs).2
            have HPP := hide hpp; have HPZ := hide hpz; have HQ1 := hide hq1; have HQ2 := hide hq2
            clear hpp hpz hq1 hq2
            obtain ⟨y0, y1, y2, y3, y4, y5, y6, y7, y8, y9⟩ := jCells10 hM12.r7
            obtain ⟨zc0, zc1, zc2, zc3, zc4, zc5, zc6, zc7, zc8, zc9⟩ := jCells10 hM12.r4
            obtain ⟨zf0, zf1, zf2, zf3, zf4, zf5, zf6, zf7, zf8, zf9⟩ := frz10 hM12.r4
            go_wp2
            refine bodyPost_ret (results_ct Tryz.results14 _ _ (w.heap.size + 1 + 1) 29 #[.int .i64 (m : Int), .int .i64 (idxN l j : Nat), .int .i64 y.kind, .string y.id, .string y.parent, .string y.number, .string y.north, .string y.south, .bool y.gone, .slice A9 q c9] (0, 0) _ rfl (set10_row hM12.r4 (.int .i64 (m : Int)) (.int .i64 (idxN l j : Nat)) (.int .i64 y.kind) (.string y.id) (.string y.parent) (.string y.number) (.string y.north) (.string y.south) (.bool y.gone) (.slice A9 q c9)) Tryz.underlying29 (by kernel_rfl)) rfl ⟨A9, c9, ?_, ?_, ?_, set10_below hM12.bel (by omega) (.int .i64 (m : Int)) (.int .i64 (idxN l j : Nat)) (.int .i64 y.kind) (.string y.id) (.string y.parent) (.string y.number) (.string y.north) (.string y.south) (.bool y.gone) (.slice A9 q c9)⟩
            · rw [HPP.out, ← HME.out]
              simp only [HQ1.out]
              rfl
            · rw [HPP.out]; simp only [HQ1.out]; exact HQ2.out
            · rw [HPP.out]
              have h9 := strs_set10 hS12 hM12.r4 (fun s hs u hu => by
                have := HPZ.out s hs
                simp only [List.mem_cons, List.not_mem_nil, or_false] at hu
                rintro rfl
                rcases hu with h | h | h | h | h | h | h | h | h | h <;> first | (cases h; done) | (injection h with h; rw [h] at this; exact absurd this (by decide))) (.int .i64 (m : Int)) (.int .i64 (idxN l j : Nat)) (.int .i64 y.kind) (.string y.id) (.string y.parent) (.string y.number) (.string y.north) (.string y.south) (.bool y.gone) (.slice A9 q c9)
              refine h9.more ?_
              exact Nat.le_of_eq (set10_size _ _ _ _ _ _ _ _ _ _ _ _).symm
end Go.Proofs.YtobhpeockinnjaaGreatDoor
/- What Verify answers, in plain Lean: its own seals are accepted; what is accepted has its form. No program in sight. -/
namespace Go.Proofs.YtobhpeockinnjaaGreatDoor
open Go Go.RowKit
theorem isB_up (n : Nat) : ∀ (i : Nat) (d : ByteArray) (r : List ByteArray), Dg.isB d = true → Dg.isB (Dg.up n i d r) = true := by
  intro i d r hd
  by_cases h1 : n ≤ 1
  · rw [Dg.up_one _ _ _ _ h1]; exact hd
  · by_cases hi : i < Dg.half n
    · rw [Dg.up_fst _ _ _ _ (by omega) hi]; exact Dg.isB_listB _
    · rw [Dg.up_snd _ _ _ _ (by omega) hi]; exact Dg.isB_listB _
theorem verifyB_iff (p m : ByteArray) (i : Int) (sig path : List ByteArray) : verifyB p m i sig path = true ↔
    sig.length = 18 ∧ path.length ≤ 8 ∧ (∀ s ∈ sig, Dg.isB s = true) ∧ (∀ s ∈ path, Dg.isB s = true) ∧ 0 ≤ i ∧ i < ((2 ^ path.length : Nat) : Int) ∧ Dg.up (2 ^ path.length) i.toNat (Dg.leafB (Dg.listB (Dg.endsB m sig))) path.reverse = p := by
  unfold verifyB checkB allDig
  simp only [Bool.and_eq_true, decide_eq_true_iff, List.all_eq_true]
  constructor
  · rintro ⟨⟨⟨⟨⟨⟨h1, h2⟩, h3⟩, h4⟩, h5⟩, h6⟩, h7, h8, h9, h10⟩
    exact ⟨h1, h2, h3, h4, h5, h6, by rw [Int.toNat_natCast] at h10; exact h10⟩
  · rintro ⟨h1, h2, h3, h4, h5, h6, h7⟩
    have h8 : 2 ^ path.length ≤ 2 ^ 8 := Nat.pow_le_pow_right (by omega) h2
    refine ⟨⟨⟨⟨⟨⟨h1, h2⟩, h3⟩, h4⟩, h5⟩, h6⟩, ⟨by omega, h5, h6⟩, h4, ?_, by rw [Int.toNat_natCast]; exact h7⟩
    rw [Int.toNat_natCast, Dg.length_pow _ _ (by omega)]
theorem verifyB_self (s m : ByteArray) (h i : Nat) (hh : h ≤ 8) (hi : i < 2 ^ h) : verifyB (Dg.publicB s h) m i (Dg.sigB s i m) (Dg.sealPath s h i) = true := by
  have hl := Dg.sealPath_len s h i hi
  refine (verifyB_iff _ _ _ _ _).2 ⟨Dg.sigB_len s i m, by rw [hl]; exact hh, Dg.sigB_isB s i m, Dg.sealPath_isB s h i, by omega, by rw [hl]; omega, ?_⟩
  rw [hl, Int.toNat_natCast, Dg.endsB_sig]
  have h2 : i < (Dg.keysB s h).length := by rw [Dg.keysB_len]; exact hi
  have h3 := Dg.path_up (2 ^ h) (Dg.keysB s h) i h2 (Dg.keysB_len s h)
  rw [Dg.keysB_get s h i h2] at h3
  exact h3
theorem verifyB_digest {p m : ByteArray} {i : Int} {sig path : List ByteArray} (h : verifyB p m i sig path = true) : Dg.isB p = true := by
  obtain ⟨_, _, _, _, _, _, h7⟩ := (verifyB_iff _ _ _ _ _).1 h
  rw [← h7]
  exact isB_up _ _ _ _ (Dg.isB_listB _)
theorem verifyB_not {p m : ByteArray} {i : Int} {sig path : List ByteArray} (h : ¬ (sig.length = 18 ∧ path.length ≤ 8 ∧ 0 ≤ i ∧ i < ((2 ^ path.length : Nat) : Int) ∧ Dg.isB p = true)) : verifyB p m i sig path = false := by
  cases hv : verifyB p m i sig path with
  | false => rfl
  | true =>
    obtain ⟨h1, h2, _, _, h5, h6, _⟩ := (verifyB_iff _ _ _ _ _).1 hv
    exact absurd ⟨h1, h2, h5, h6, verifyB_digest hv⟩ h
theorem isB_publicB (s : ByteArray) (h : Nat) : Dg.isB (Dg.publicB s h) = true := Dg.isB_root _
theorem isB_empty : Dg.isB ⟨#[]⟩ = false := by decide
theorem isB_16 {l : List ByteArray} (h : ∀ s ∈ l, Dg.isB s = true) : ∀ s ∈ l, s.size = 16 := fun s hs => Dg.isB_len (h s hs)
theorem sigB_sz (s : ByteArray) (i : Nat) (m : ByteArray) : ∀ x ∈ Dg.sigB s i m, x.size ≤ 1073741824 := fun x hx => by rw [isB_16 (Dg.sigB_isB s i m) x hx]; decide
theorem sealPath_sz (s : ByteArray) (h i : Nat) : ∀ x ∈ Dg.sealPath s h i, x.size ≤ 1073741824 := fun x hx => by rw [isB_16 (Dg.sealPath_isB s h i) x hx]; decide
end Go.Proofs.YtobhpeockinnjaaGreatDoor
/- Shown of the reference: true where two different strings of the list have one digest. -/
namespace Go.Proofs.YtobhpeockinnjaaGreatDoor
open Go Go.RowKit Go.Sort
def pairAt (l : List ByteArray) (i k : Nat) : Prop := ∃ a b, l[i]? = some a ∧ l[k]? = some b ∧ a ≠ b ∧ Dg.sumB a = Dg.sumB b
theorem shown_pair {l : List ByteArray} (h : Dg.Shown l) : ∃ i k, k < i ∧ i < l.length ∧ pairAt l i k := by
  obtain ⟨a, ha, b, hb, hne, he⟩ := h
  obtain ⟨i, hi⟩ := List.mem_iff_getElem?.1 ha
  obtain ⟨k, hk⟩ := List.mem_iff_getElem?.1 hb
  rcases Nat.lt_trichotomy k i with h | h | h
  · exact ⟨i, k, h, (List.getElem?_eq_some_iff.1 hi).1, a, b, hi, hk, hne, he⟩
  · subst h
    exact absurd (Option.some.inj (hi.symm.trans hk)) hne
  · exact ⟨k, i, h, (List.getElem?_eq_some_iff.1 hk).1, b, a, hk, hi, hne.symm, he.symm⟩
theorem rsum_of (s r : ByteArray) (hr : Dg.sumB s = r) (hs : s.size ≤ 4611686018427387904) (w : World) :
    Calls Tryz.prog 69 #[.string s] w fun e w' => e = .returned (.string r) ∧ w = w' := by
  subst hr; exact rsum_any s hs w
theorem sum_ne {x y : ByteArray} (h : Dg.sumB x ≠ Dg.sumB y) : ((Dg.sumB x).toList == (Dg.sumB y).toList) = false := tl_false h
set_option maxRecDepth 100000 in
set_option maxHeartbeats 1000000 in
theorem shown_any (A : Option Addr) (c n : Nat) (l : List ByteArray) (w : World) (hl : l.length = n) (hn : n ≤ 1048576) (hs : ∀ s ∈ l, s.size ≤ 4611686018427387904) (hS : Strs w w.heap.size A l) (hSh : Dg.Shown l) :
    Calls Tryz.prog 34 #[.slice A n c] w fun e w' => e = .returned (.bool true) ∧ Below w.heap.size w w' := by
  subst hl
  have HP := hide (shown_pair hSh); clear hSh
  have HZ := hide hs; clear hs
  go_enter Tryz.func34, Tryz.ntmps34
  go_wp2
  go_loopw [3, 4] (fun sv iv wr => ∃ k : Nat, k ≤ l.length ∧ iv = .int .i64 k ∧ Below w.heap.size w wr ∧ OwnS wr w.heap.size sv ((l.take k).map Dg.sumB)) (fun _ iv _ => l.length - (intOf iv).toNat)
  case atStart => exact ⟨0, by omega, rfl, Below.refl _ _, OwnS.nil _ _⟩
  case round =>
    obtain ⟨k, hk, rfl, hb, hO⟩ := hrel
    by_cases hlt : k < l.length
    · obtain ⟨b, off, rfl, hbl, hcell⟩ := (hS.below hb).get hlt
      have hsz := HZ.out l[k] (List.getElem_mem hlt)
      have hts : Hid ((l.take (k + 1)).map Dg.sumB = (l.take k).map Dg.sumB ++ [Dg.sumB l[k]]) := by
        unfold Hid; rw [List.take_succ_eq_append_getElem hlt, List.map_append]; rfl
      have hml : ((l.take k).map Dg.sumB).length = k := by rw [List.length_map, List.length_take]; omega
      have hml' := hide hml
      have hml2 : ((l.take k).map Dg.sumB).length < 1099511627776 := by omega
      clear hml
      generalize (l.take k).map Dg.sumB = q at *
      generalize l[k] = x at *
      have hsx : Hid (Dg.sumB x = Dg.sumB x) := rfl
      generalize hX : Dg.sumB x = X at *
      have HX := hide hX; clear hX
      go_wp2_with fail
      refine (rsum_of x X HX.out hsz _).mono ?_
      rintro e w1 ⟨rfl, rfl⟩
      go_wp2_with (at_builtin; refine step_s wr rfl (.tmp 13) (.tmp 19) rfl X w.heap.size _ q rfl hO rfl hml2 hb.size ?_; intro v' w2 hO2 hb2)
      go_roundw
      case rel => exact ⟨k + 1, by omega, by go_num, hb.trans hb2, by rw [hts.out]; exact hO2⟩
      case measure => simp [intOf]; omega
    · obtain rfl : k = l.length := by omega
      rw [List.take_length] at hO
      obtain ⟨A2, c2, hv, hc2, hS2⟩ := hO.strs
      have hml : (l.map Dg.sumB).length = l.length := List.length_map _
      rw [hml] at hv
      subst hv
      clear hml hO hc2
      have hS1 := keepS hS hb
      clear hS
      go_wp2
      go_loopw [5] (fun iv w2 => ∃ i : Nat, i ≤ l.length ∧ iv = .int .i64 i ∧ Below w.heap.size w w2 ∧ Strs w2 w2.heap.size A l ∧ Strs w2 w2.heap.size A2 (l.map Dg.sumB) ∧ Hid (∀ i' k', i' < i → k' < i' → ¬ pairAt l i' k')) (fun iv _ => l.length - (intOf iv).toNat)
      case atStart => exact ⟨0, by omega, rfl, hb, hS1, hS2, fun i' k' h _ => by omega⟩
      case round =>
        obtain ⟨i, hi, rfl, hbi, hSi, hSi2, hno⟩ := hrel
        by_cases hil : i < l.length
        · go_wp2
          go_loopw [6] (fun kv w3 => ∃ k : Nat, k ≤ i ∧ kv = .int .i64 k ∧ Below w.heap.size w w3 ∧ Strs w3 w3.heap.size A l ∧ Strs w3 w3.heap.size A2 (l.map Dg.sumB) ∧ Hid (∀ k', k' < k → ¬ pairAt l i k')) (fun kv _ => i - (intOf kv).toNat)
          case atStart => exact ⟨0, by omega, rfl, hbi, hSi, hSi2, fun k' h => by omega⟩
          case round =>
            obtain ⟨k, hki, rfl, hbk, hSk, hSk2, hnk⟩ := hrel
            by_cases hkl : k < i
            · obtain ⟨b, off, rfl, hbl, hcell⟩ := hSk.at_ (by omega)
              obtain ⟨b2, off2, rfl, hbl2, hcell2⟩ := hSk2.at_ (by rw [List.length_map]; omega)
              have a1 := hcell i l[i] (List.getElem?_eq_getElem hil)
              have a2 := hcell k l[k] (List.getElem?_eq_getElem (by omega))
              have a3 := hcell2 i (Dg.sumB l[i]) (by rw [List.getElem?_map, List.getElem?_eq_getElem hil]; rfl)
              have a4 := hcell2 k (Dg.sumB l[k]) (by rw [List.getElem?_map, List.getElem?_eq_getElem (by omega)]; rfl)
              clear hcell hcell2
              have hpn : Hid (Dg.sumB l[i] = Dg.sumB l[k] → l[i] = l[k] → ¬ pairAt l i k) := by
                intro _ he ⟨a, b, h1, h2, hne, _⟩
                rw [List.getElem?_eq_getElem hil] at h1
                rw [List.getElem?_eq_getElem (by omega)] at h2
                exact hne ((Option.some.inj h1).symm.trans (he.trans (Option.some.inj h2)))
              have hpn2 : Hid (Dg.sumB l[i] ≠ Dg.sumB l[k] → ¬ pairAt l i k) := by
                intro hne ⟨a, b, h1, h2, _, he⟩
                rw [List.getElem?_eq_getElem hil] at h1
                rw [List.getElem?_eq_getElem (by omega)] at h2
                obtain rfl := Option.some.inj h1
                obtain rfl := Option.some.inj h2
                exact hne he
              generalize l[i] = x at *
              generalize l[k] = y at *
              have hstep : ∀ (q : ¬ pairAt l i k), Hid (∀ k', k' < k + 1 → ¬ pairAt l i k') := fun q k' h => by
                by_cases h2 : k' = k
                · rw [h2]; exact q
                · exact hnk.out k' (by omega)
              have HST := hide hstep; clear hstep
              by_cases e1 : Dg.sumB x = Dg.sumB y
              · have t1 := tl_true e1
                by_cases e2 : x = y
                · have hq := hpn.out e1 e2
                  have t2 := tl_true e2
                  subst e2
                  have HQ := hide (HST.out hq); clear hq e1
                  go_wp2_with fail
                  go_quiet (fail)
                  go_wp2
                  go_roundw
                  case rel => exact ⟨k + 1, by omega, by go_num, below_drewN hbk nq, keepS hSk (below_drewN (Below.refl _ _) nq), keepS hSk2 (below_drewN (Below.refl _ _) nq), HQ.out⟩
                  case measure => simp [intOf]; omega
                · have t2 := tl_false e2
                  clear e1 e2
                  go_wp2_with fail
                  go_quiet (fail)
                  go_wp2
                  go_ret
                  exact ⟨rfl, below_drewN hbk nq⟩
              · have hq := hpn2.out e1
                have t1 := tl_false e1
                have HQ := hide (HST.out hq); clear hq e1
                go_wp2_with fail
                go_quiet (fail)
                go_wp2
                go_roundw
                case rel => exact ⟨k + 1, by omega, by go_num, below_drewN hbk nq, keepS hSk (below_drewN (Below.refl _ _) nq), keepS hSk2 (below_drewN (Below.refl _ _) nq), HQ.out⟩
                case measure => simp [intOf]; omega
            · obtain rfl : k = i := by omega
              go_wp2
              go_roundw
              case rel => exact ⟨k + 1, by omega, by go_num, hbk, hSk, hSk2, fun i' k' h h' => by
                by_cases h2 : i' = k
                · rw [h2]; exact hnk.out k' (by omega)
                · exact hno.out i' k' (by omega) h'⟩
              case measure => simp [intOf]; omega
        · obtain ⟨i', k', h1, h2, h3⟩ := HP.out
          exact absurd h3 (hno.out i' k' (by omega) h1)
end Go.Proofs.YtobhpeockinnjaaGreatDoor
/- Power, chained, node, Digits of the reference of layer 3. -/
namespace Go.Proofs.YtobhpeockinnjaaGreatDoor
open Go Go.RowKit Go.Sort
theorem pow_lt62 (k n : Nat) (hk : k ≤ n) (hn : n ≤ 60) : 2 ^ k ≤ 1152921504606846976 := by
  have := Nat.pow_le_pow_right (n := 2) (by omega) (show k ≤ 60 by omega)
  have h2 : 2 ^ 60 = 1152921504606846976 := by decide
  omega
theorem rpower_any (n : Nat) (hn : n ≤ 60) (R : Nat) (hR : 2 ^ n = R) (w : World) :
    Calls Tryz.prog 104 #[.int .i64 n] w fun e w' => e = .returned (.int .i64 R) ∧ w = w' := by
  have HR := hide hR; clear hR
  go_enter Tryz.func104, Tryz.ntmps104
  go_wp2
  go_loop [3, 4] (fun o i => ∃ k : Nat, k ≤ n ∧ i = .int .i64 k ∧ ∃ P : Nat, Hid (2 ^ k = P) ∧ o = .int .i64 P) (fun _ i => n - (intOf i).toNat)
  case atStart => exact ⟨0, by omega, rfl, 1, rfl, rfl⟩
  case round =>
    obtain ⟨k, hk, rfl, P, hP, rfl⟩ := hrel
    have hb := pow_lt62 k n hk hn
    rw [hP.out] at hb
    by_cases hlt : k < n
    · go_wp2
      go_round
      case rel => exact ⟨k + 1, by omega, by go_num, 2 * P, by unfold Hid; rw [Nat.pow_succ, hP.out]; omega, by go_num⟩
      case measure => simp [intOf]; omega
    · obtain rfl : k = n := by omega
      obtain rfl : P = R := hP.out.symm.trans HR.out
      go_wp2
      go_ret
      exact ⟨rfl, rfl⟩
theorem chained_succ (s : ByteArray) (k : Nat) : Dg.chained s (k + 1) = Dg.chained s k ++ [Dg.chainB s (k + 1)] := by unfold Dg.chained; rw [List.range_succ, List.map_append]; rfl
theorem chained_zero (s : ByteArray) : Dg.chained s 0 = [s] := by unfold Dg.chained; simp [Dg.chainB_zero]
theorem chained_len (s : ByteArray) (k : Nat) : (Dg.chained s k).length = k + 1 := by unfold Dg.chained; rw [List.length_map, List.length_range]
theorem sNode_eq : Dg.sNode = ⟨#[110, 111, 100, 101]⟩ := rfl
/-- The digits as the reference collects them. -/
def digI (m : ByteArray) (k : Nat) : List Value := (List.range k).map fun j => .int .i64 (Dg.dig m j : Nat)
theorem digI_len (m : ByteArray) (k : Nat) : (digI m k).length = k := by rw [digI, List.length_map, List.length_range]
theorem digI_succ (m : ByteArray) (k : Nat) : digI m (k + 1) = digI m k ++ [.int .i64 (Dg.dig m k : Nat)] := by unfold digI; rw [List.range_succ, List.map_append]; rfl
theorem digI_get (m : ByteArray) (k j : Nat) (h : j < k) : (digI m k)[j]? = some (.int .i64 (Dg.dig m j : Nat)) := by unfold digI; rw [List.getElem?_map, List.getElem?_range h]; rfl
theorem intInf9 : (Tryz.prog.info? 3).map (fun i => (i.zero, i.size, i.bytes)) = some (some (.int .i64 0), 1, 8) := by kernel_rfl
theorem digit_hex (d : Nat) (h : d < 16) : Dg.digit (Dg.hexDigit d) = d := by
  have : ∀ d, d < 16 → Dg.digit (Dg.hexDigit d) = d := by decide +kernel
  exact this d h
theorem rdigit_hex (c : UInt8) (d : Nat) (hd : d < 16) (hc : c = Dg.hexDigit d) (w : World) :
    Calls Tryz.prog 103 #[.int .u8 (c.toNat : Int)] w fun e w' => e = .returned (.int .i64 (d : Int)) ∧ w = w' := by
  have := digit_any c w
  rw [hc, digit_hex d hd] at this
  rw [hc]
  exact this
theorem step_i (w0 : World) {ops : Array Oper} {rest : List Oper} {o : Oper} {a : Act} {Q : Exit → Act → World → Prop} (hgd : o.guard = none) (sl x : Operand)
    (ho : o.op = .call { callee := .builtin .append, args := #[sl, x], argTypes := #[54, 54] })
    (z : Int) (B : Nat) (v : Value) (l : List Value) (hs : a.eval sl = v) (hown : OwnV w0 B 3 v l) (hx : a.eval x = .slice (some ⟨w0.heap.size, 0, none⟩) 1 1)
    (hlen : l.length < 1099511627776) (hB : B ≤ w0.heap.size)
    (h : ∀ v' w', OwnV w' B 3 v' (l ++ [.int .i64 z]) → Below B w0 w' → wpList Tryz.prog ops Q rest (a.put o.dst v') w') : wpList Tryz.prog ops Q (o :: rest) a (w0.alloc (.cells #[.int .i64 z] 3)) :=
  step_one _ hgd sl x 54 3 _ _ ho Tryz.underlying54 intInf9 rfl B v _ hs (OwnV.alloc hown _) ⟨w0.heap.size, 0, none⟩ 1 (.int .i64 z) hx (by rw [cell_of_row _ _ 0 _ _ (0, 0) (heap_alloc_new _ _)]; rfl) rfl hlen (by omega) (by simp; omega) fun v' w' h1 h2 => h v' w' h1 (((Below.refl _ _).alloc hB _).trans h2)
theorem step_i2 (w0 : World) {ops : Array Oper} {rest : List Oper} {o : Oper} {a : Act} {Q : Exit → Act → World → Prop} (hgd : o.guard = none) (sl x : Operand)
    (ho : o.op = .call { callee := .builtin .append, args := #[sl, x], argTypes := #[54, 54] })
    (z y : Int) (B : Nat) (v : Value) (l : List Value) (hs : a.eval sl = v) (hown : OwnV w0 B 3 v l) (hx : a.eval x = .slice (some ⟨w0.heap.size, 0, none⟩) 2 2)
    (hlen : l.length < 1099511627776) (hB : B ≤ w0.heap.size)
    (h : ∀ v' w', OwnV w' B 3 v' (l ++ [.int .i64 z, .int .i64 y]) → Below B w0 w' → wpList Tryz.prog ops Q rest (a.put o.dst v') w') : wpList Tryz.prog ops Q (o :: rest) a (w0.alloc (.cells #[.int .i64 z, .int .i64 y] 3)) := by
  obtain ⟨i, h2, h3, h4, h5⟩ := info_parts intInf9
  have hown1 := OwnV.alloc hown (.cells #[.int .i64 z, .int .i64 y] 3)
  refine wpList_append_own _ hgd sl x 54 ho B 3 i (.int .i64 0) 1 8 Tryz.underlying54 h2 h3 h4 h5 rfl (by omega) v l.length l hs hown1 ⟨w0.heap.size, 0, none⟩ 2 2 [.int .i64 z, .int .i64 y] hx rfl ?_ ?_ (by unfold maxLen; omega) (by omega) (by simp; omega) fun v' w' hown' hg _ => h v' w' ?_ (((Below.refl _ _).alloc hB _).trans (below_own hown1 hg (by simp; omega)))
  · intro j u' hj
    rw [add_off0, cell_of_row _ _ _ _ _ (0, 0) (heap_alloc_new _ _), ← Array.getElem?_toList]
    exact hj
  · intro u' hu'
    rcases List.mem_cons.1 hu' with rfl | hu'
    · rfl
    · rw [List.mem_singleton.1 hu']; rfl
  · unfold OwnV
    rw [List.length_append]
    exact hown'
set_option maxHeartbeats 1000000 in
theorem rdigs_any (m : ByteArray) (hm : m.size ≤ 4611686018427387904) (w : World) :
    Calls Tryz.prog 105 #[.string m] w fun e w' => (∃ v, e = .returned v ∧ OwnV w' w.heap.size 3 v (digI m 18)) ∧ Below w.heap.size w w' := by
  have hsz := Dg.sumB_size m
  generalize hS : Dg.sumB m = S at *
  have HS := hide hS; clear hS
  go_enter Tryz.func105, Tryz.ntmps105
  go_wp2_with fail
  refine (rsum_of m S HS.out hm _).mono ?_
  rintro e w1 ⟨rfl, rfl⟩
  go_wp2
  go_loopw [4, 5, 6] (fun v r i wr => ∃ k : Nat, k ≤ 16 ∧ i = .int .i64 k ∧ Below w.heap.size w wr ∧ r = .int .i64 (Dg.restTo m k : Nat) ∧ OwnV wr w.heap.size 3 v (digI m k)) (fun _ _ i _ => 16 - (intOf i).toNat)
  case atStart => exact ⟨0, by omega, rfl, Below.refl _ _, rfl, OwnV.nil _ _ _⟩
  case round =>
    obtain ⟨k, hk, rfl, hb, rfl, hO⟩ := hrel
    have hrl := Dg.restTo_le m k
    by_cases hlt : k < 16
    · have hg := sumB_get m k hlt
      have hdl := Dg.dgt_lt m k
      have hrs : Dg.restTo m (k + 1) = Dg.restTo m k + (15 - Dg.dgt m k) := rfl
      have hds := digI_succ m k
      rw [Dg.dig_lo m k hlt] at hds
      rw [HS.out] at hg
      have hcl : (digI m k).length < 1099511627776 := by rw [digI_len]; omega
      generalize Dg.dgt m k = d at *
      have hg' := hide (get_of_L S k d hg (by omega)); have hrs' := hide hrs; have hds' := hide hds; clear hg hrs hds
      generalize Dg.restTo m k = r at *
      generalize digI m k = q at *
      go_wp2_with fail
      refine (rdigit_hex _ d hdl hg'.out _).mono ?_
      rintro e w1 ⟨rfl, rfl⟩
      go_wp2_with (at_builtin; refine step_i wr rfl (.tmp 20) (.tmp 22) rfl d w.heap.size _ q rfl hO rfl hcl hb.size ?_; intro v' w2 hO2 hb2)
      go_roundw
      case rel => exact ⟨k + 1, by omega, by go_num, hb.trans hb2, by rw [hrs'.out]; go_num, by rw [hds'.out]; exact hO2⟩
      case measure => simp [intOf]; omega
    · obtain rfl : k = 16 := by omega
      have hds := hide (digI_succ m 16)
      have hds2 := hide (digI_succ m 17)
      have hcl : (digI m 16).length < 1099511627776 := by rw [digI_len]; omega
      rw [Dg.dig_16] at hds
      rw [Dg.dig_17] at hds2
      generalize Dg.restTo m 16 = r at *
      have hE : Hid (digI m 18 = digI m 16 ++ [.int .i64 ((r : Int) / 16), .int .i64 ((r : Int) % 16)]) := by
        unfold Hid
        rw [hds2.out, hds.out, List.append_assoc]
        rfl
      generalize digI m 16 = q at *
      go_wp2_with (at_builtin; refine step_i2 wr rfl (.tmp 28) (.tmp 33) rfl ((r : Int) / 16) ((r : Int) % 16) w.heap.size _ q rfl hO rfl hcl hb.size ?_; intro v' w2 hO2 hb2)
      go_ret
      exact ⟨⟨_, rfl, by rw [hE.out]; exact hO2⟩, hb.trans hb2⟩
end Go.Proofs.YtobhpeockinnjaaGreatDoor
/- Same, Few of the reference of layer 3. -/
namespace Go.Proofs.YtobhpeockinnjaaGreatDoor
open Go Go.RowKit Go.Sort
theorem bcell {W w1 : World} (hb : Below W.heap.size W w1) : (∀ b o, b < W.heap.size → w1.cell? ⟨b, o, none⟩ = W.cell? ⟨b, o, none⟩) ∧ (∀ b o, b < W.heap.size → w1.frozen? ⟨b, o, none⟩ = W.frozen? ⟨b, o, none⟩) :=
  ⟨fun b o h => hb.cell (p := ⟨b, o, none⟩) h, fun b o h => hb.frozen (p := ⟨b, o, none⟩) h⟩
/-- Seals are equal. -/
def sameS (i j : Int) (a a' p p' : List ByteArray) : Bool := decide (i = j) && (Dg.same a a' && Dg.same p p')
theorem sameS_iff (i j : Int) (a a' p p' : List ByteArray) : sameS i j a a' p p' = true ↔ i = j ∧ a = a' ∧ p = p' := by
  unfold sameS
  rw [Bool.and_eq_true, Bool.and_eq_true, decide_eq_true_iff, Dg.same_iff, Dg.same_iff]
def fewS (sig path : List ByteArray) : Bool := Dg.few sig 100 && Dg.few path 100
theorem fewS_iff (sig path : List ByteArray) : fewS sig path = true ↔ (sig.length ≤ 30 ∧ ∀ s ∈ sig, s.size ≤ 100) ∧ (path.length ≤ 30 ∧ ∀ s ∈ path, s.size ≤ 100) := by
  unfold fewS
  rw [Bool.and_eq_true, Dg.few_iff, Dg.few_iff]
  constructor
  · rintro ⟨⟨h1, h2⟩, h3, h4⟩
    exact ⟨⟨h1, fun s hs => by have := h2 s hs; omega⟩, h3, fun s hs => by have := h4 s hs; omega⟩
  · rintro ⟨⟨h1, h2⟩, h3, h4⟩
    exact ⟨⟨h1, fun s hs => by have := h2 s hs; omega⟩, h3, fun s hs => by have := h4 s hs; omega⟩
theorem few_end {a : List ByteArray} {j : Nat} (h : Hid (∀ s ∈ a.take j, s.size ≤ 100)) (hj : j = a.length ∨ j = 30) (hl : a.length ≤ 30) : ∀ s ∈ a, s.size ≤ 100 := fun s hs => by
  have h1 := h.out
  rw [List.take_of_length_le (by omega)] at h1
  exact h1 s hs
theorem few_res {a p : List ByteArray} {R : Bool} {j l : Nat} (HR : Hid (fewS a p = R)) (h1 : Hid (∀ s ∈ a.take j, s.size ≤ 100)) (h2 : Hid (∀ s ∈ p.take l, s.size ≤ 100)) (e1 : Hid (j = a.length ∨ j = 30)) (e2 : Hid (l = p.length ∨ l = 30)) (la : a.length ≤ 30) : decide ((p.length : Int) ≤ 30) = R := by
  rw [← HR.out, show decide ((p.length : Int) ≤ 30) = decide (p.length ≤ 30) from decide_eq_decide.2 (by omega)]
  by_cases lp : p.length ≤ 30
  · rw [decide_eq_true lp]
    exact ((fewS_iff a p).2 ⟨⟨la, few_end h1 e1.out la⟩, lp, few_end h2 e2.out lp⟩).symm
  · rw [decide_eq_false lp]
    cases hf : fewS a p with
    | false => rfl
    | true => exact absurd ((fewS_iff a p).1 hf).2.1 lp
theorem few_res2 {a p : List ByteArray} {R : Bool} (HR : Hid (fewS a p = R)) (la : ¬ a.length ≤ 30) : false = R := by
  rw [← HR.out]
  cases hf : fewS a p with
  | false => rfl
  | true => exact absurd ((fewS_iff a p).1 hf).1.1 la
theorem take_step {a : List ByteArray} {j : Nat} {x : ByteArray} (h : Hid (∀ s ∈ a.take j, s.size ≤ 100)) (ht : Hid (a.take (j + 1) = a.take j ++ [x])) (hx : x.size ≤ 100) : Hid (∀ s ∈ a.take (j + 1), s.size ≤ 100) := by
  unfold Hid
  rw [ht.out]
  intro s hs'
  rcases List.mem_append.1 hs' with h1 | h1
  · exact h.out s h1
  · obtain rfl : s = x := by simpa using h1
    exact hx
set_option maxRecDepth 100000 in
set_option maxHeartbeats 4000000 in
theorem rfew3_of (i : Int) (A B : Option Addr) (c d n k : Nat) (a p : List ByteArray) (R : Bool) (hR : fewS a p = R) (w : World)
    (hn : a.length = n) (hk : p.length = k) (bn : n ≤ 9223372036854775807) (bk : k ≤ 9223372036854775807) (za : ∀ s ∈ a, s.size ≤ 9223372036854775807) (zp : ∀ s ∈ p, s.size ≤ 9223372036854775807)
    (hA : Strs w w.heap.size A a) (hB : Strs w w.heap.size B p) :
    Calls Tryz.prog 39 #[.agg #[.int .i64 i, .slice A n c, .slice B k d]] w fun e w' => e = .returned (.bool R) ∧ Below w.heap.size w w' := by
  have hW := (Below.refl w.heap.size w).alloc (Nat.le_refl _) (.cells #[.int .i64 i, .slice A n c, .slice B k d] 42)
  have hSA := keepS hA hW
  have hSB := keepS hB hW
  have HR := hide hR; clear hR
  have Za := hide za; have Zp := hide zp; clear za zp
  subst hn hk
  go_enter Tryz.func39, Tryz.ntmps39
  go_wp2
  go_loop [3] (fun iv => ∃ j : Nat, j ≤ a.length ∧ j ≤ 30 ∧ iv = .int .i64 j ∧ Hid (∀ s ∈ a.take j, s.size ≤ 100)) (fun iv => 30 - (intOf iv).toNat)
  case atStart => exact ⟨0, by omega, by omega, rfl, by unfold Hid; simp⟩
  case round =>
    obtain ⟨j, hj, hj30, rfl, hall⟩ := hrel
    by_cases hlt : j < a.length ∧ j < 30
    · obtain ⟨hlt, hlt30⟩ := hlt
      obtain ⟨b, off, rfl, hbl, hcell⟩ := hSA.get hlt
      have hsz := Za.out a[j] (List.getElem_mem hlt)
      have hts := hide (List.take_succ_eq_append_getElem hlt)
      have hm := hide (List.getElem_mem hlt)
      generalize a[j] = x at *
      by_cases hx : x.size ≤ 100
      · go_wp2
        go_round
        case rel => exact ⟨j + 1, by omega, by omega, by go_num, take_step hall hts hx⟩
        case measure => simp [intOf]; omega
      · go_wp2
        go_ret
        refine ⟨ret_bool ?_, hW⟩
        rw [← HR.out]
        cases hf : fewS a p with
        | false => rfl
        | true => exact absurd (((fewS_iff a p).1 hf).1.2 x hm.out) hx
    · have hex := hide (show j = a.length ∨ j = 30 by omega)
      by_cases hlt1 : j < a.length
      · have hlt30 : ¬ j < 30 := by omega
        go_wp2
        go_loop [4] (fun iv => ∃ l : Nat, l ≤ p.length ∧ l ≤ 30 ∧ iv = .int .i64 l ∧ Hid (∀ s ∈ p.take l, s.size ≤ 100)) (fun iv => 30 - (intOf iv).toNat)
        case atStart => exact ⟨0, by omega, by omega, rfl, by unfold Hid; simp⟩
        case round =>
          obtain ⟨l, hl, hl30, rfl, hall2⟩ := hrel
          by_cases hlt2 : l < p.length ∧ l < 30
          · obtain ⟨hlt2, hlt30⟩ := hlt2
            obtain ⟨b, off, rfl, hbl, hcell⟩ := hSB.get hlt2
            have hsz := Zp.out p[l] (List.getElem_mem hlt2)
            have hts := hide (List.take_succ_eq_append_getElem hlt2)
            have hm := hide (List.getElem_mem hlt2)
            generalize p[l] = x at *
            by_cases hx : x.size ≤ 100
            · go_wp2
              go_round
              case rel => exact ⟨l + 1, by omega, by omega, by go_num, take_step hall2 hts hx⟩
              case measure => simp [intOf]; omega
            · go_wp2
              go_ret
              refine ⟨ret_bool ?_, hW⟩
              rw [← HR.out]
              cases hf : fewS a p with
              | false => rfl
              | true => exact absurd (((fewS_iff a p).1 hf).2.2 x hm.out) hx
          · have hex2 := hide (show l = p.length ∨ l = 30 by omega)
            by_cases hlt1 : l < p.length
            · have hlt30 : ¬ l < 30 := by omega
              by_cases la : a.length ≤ 30
              · exact absurd la (by omega)
              · have la' := hide la
                have la1 : decide ((a.length : Int) ≤ 30) = false := decide_eq_false (by omega)
                clear la
                go_wp2
                go_ret
                exact ⟨ret_bool (few_res2 HR la'.out), hW⟩
            · by_cases la : a.length ≤ 30
              · exact absurd la (by omega)
              · have la' := hide la
                have la1 : decide ((a.length : Int) ≤ 30) = false := decide_eq_false (by omega)
                clear la
                go_wp2
                go_ret
                exact ⟨ret_bool (few_res2 HR la'.out), hW⟩
      · go_wp2
        go_loop [4] (fun iv => ∃ l : Nat, l ≤ p.length ∧ l ≤ 30 ∧ iv = .int .i64 l ∧ Hid (∀ s ∈ p.take l, s.size ≤ 100)) (fun iv => 30 - (intOf iv).toNat)
        case atStart => exact ⟨0, by omega, by omega, rfl, by unfold Hid; simp⟩
        case round =>
          obtain ⟨l, hl, hl30, rfl, hall2⟩ := hrel
          by_cases hlt2 : l < p.length ∧ l < 30
          · obtain ⟨hlt2, hlt30⟩ := hlt2
            obtain ⟨b, off, rfl, hbl, hcell⟩ := hSB.get hlt2
            have hsz := Zp.out p[l] (List.getElem_mem hlt2)
            have hts := hide (List.take_succ_eq_append_getElem hlt2)
            have hm := hide (List.getElem_mem hlt2)
            generalize p[l] = x at *
            by_cases hx : x.size ≤ 100
            · go_wp2
              go_round
              case rel => exact ⟨l + 1, by omega, by omega, by go_num, take_step hall2 hts hx⟩
              case measure => simp [intOf]; omega
            · go_wp2
              go_ret
              refine ⟨ret_bool ?_, hW⟩
              rw [← HR.out]
              cases hf : fewS a p with
              | false => rfl
              | true => exact absurd (((fewS_iff a p).1 hf).2.2 x hm.out) hx
          · have hex2 := hide (show l = p.length ∨ l = 30 by omega)
            by_cases hlt1 : l < p.length
            · have hlt30 : ¬ l < 30 := by omega
              by_cases la : a.length ≤ 30
              · go_wp2
                go_ret
                exact ⟨ret_bool (few_res HR hall hall2 hex hex2 la), hW⟩
              · exact absurd (show a.length ≤ 30 by omega) la
            · by_cases la : a.length ≤ 30
              · go_wp2
                go_ret
                exact ⟨ret_bool (few_res HR hall hall2 hex hex2 la), hW⟩
              · exact absurd (show a.length ≤ 30 by omega) la
end Go.Proofs.YtobhpeockinnjaaGreatDoor
/- head and short of pandectlaw03. -/
namespace Go.Proofs.YtobhpeockinnjaaGreatDoor
open Go Go.RowKit Go.Sort
theorem public_of (s : ByteArray) (H : Int) (h : Nat) (hH : H = h) (hs : s.size ≤ 1073741824) (hh : h ≤ 8) (R : ByteArray) (hR : Dg.publicB s h = R) (w : World) (he : Env w) :
    Calls Tryz.prog 56 #[.string s, .int .i64 H] w fun e w' => e = .returned (.tuple #[.string R, .int .i64 0]) ∧ Below w.heap.size w w' := by
  subst hH; exact public_any s h hs hh R hR w he
/-- What Sign hands back, with open texts. -/
def SealIs (i : Nat) (h : Nat) (sig path : List ByteArray) (w : World) (e : Ending) (w' : World) : Prop :=
  ∃ A c A' c', e = .returned (.tuple #[.agg #[.int .i64 i, .slice A 18 c, .slice A' h c'], .int .i64 0]) ∧ 18 ≤ c ∧ h ≤ c' ∧ Strs w' w'.heap.size A sig ∧ Strs w' w'.heap.size A' path ∧ Below w.heap.size w w'
theorem sign_of (s m : ByteArray) (H I : Int) (h i : Nat) (hH : H = h) (hI : I = i) (hs : s.size ≤ 1073741824) (hm : m.size ≤ 9223372036854775807) (hh : h ≤ 8) (hi : i < 2 ^ h) (sig path : List ByteArray) (h1 : Dg.sigB s i m = sig) (h2 : Dg.sealPath s h i = path) (w : World) (he : Env w) :
    Calls Tryz.prog 57 #[.string s, .int .i64 H, .int .i64 I, .string m] w (SealIs i h sig path w) := by
  subst hH hI h1 h2; exact sign_any s m h i hs hm hh hi w he
def xsec : ByteArray := ⟨#[115, 101, 99, 114, 101, 116]⟩
def xmes : ByteArray := ⟨#[109, 101, 115, 115, 97, 103, 101]⟩
theorem ex3 : ∃ (P : ByteArray) (SG PT : List ByteArray), (Dg.publicB xsec 2 = P ∧ Dg.sigB xsec 3 xmes = SG ∧ Dg.sealPath xsec 2 3 = PT) ∧ SG.length = 18 ∧ PT.length = 2 ∧ (∀ s ∈ SG, s.size ≤ 1073741824) ∧ (∀ s ∈ PT, s.size ≤ 1073741824) ∧ verifyB P xmes 3 SG PT = true :=
  ⟨_, _, _, ⟨rfl, rfl, rfl⟩, Dg.sigB_len _ _ _, Dg.sealPath_len _ _ _ (by decide), sigB_sz _ _ _, sealPath_sz _ _ _, verifyB_self xsec xmes 2 3 (by decide) (by decide)⟩
theorem cells3 {w : World} {g : Nat} {a b c : Value} {T : TypeId} (h : w.heap[g]? = some (.cells #[a, b, c] T (0, 0))) : w.cell? ⟨g, 0, none⟩ = some a ∧ w.cell? ⟨g, 1, none⟩ = some b ∧ w.cell? ⟨g, 2, none⟩ = some c := by
  refine ⟨?_, ?_, ?_⟩ <;> (rw [cell_of_row _ _ _ _ _ (0, 0) h]; rfl)
theorem alloc3 (w : World) (A B C : Obj) : (((w.alloc A).alloc B).alloc C).heap[w.heap.size]? = some A ∧ (((w.alloc A).alloc B).alloc C).heap[w.heap.size + 1]? = some B ∧ (((w.alloc A).alloc B).alloc C).heap[w.heap.size + 1 + 1]? = some C ∧ Below w.heap.size w (((w.alloc A).alloc B).alloc C) := by
  have s1 : (w.alloc A).heap.size = w.heap.size + 1 := by simp
  have s2 : ((w.alloc A).alloc B).heap.size = w.heap.size + 1 + 1 := by simp
  have a1 := heap_alloc_new w A
  have a2 := heap_alloc_new (w.alloc A) B
  have a3 := heap_alloc_new ((w.alloc A).alloc B) C
  rw [s1] at a2
  rw [s2] at a3
  have b12 : Below (w.heap.size + 1) (w.alloc A) (((w.alloc A).alloc B).alloc C) := ((Below.refl _ _).alloc (by simp) _).alloc (by simp) _
  have b23 : Below (w.heap.size + 1 + 1) ((w.alloc A).alloc B) (((w.alloc A).alloc B).alloc C) := (Below.refl _ _).alloc (by simp) _
  exact ⟨(b12.block _ (by omega)).trans a1, (b23.block _ (by omega)).trans a2, a3, (((Below.refl _ _).alloc (Nat.le_refl _) _).alloc (by simp) _).alloc (by simp; omega) _⟩
end Go.Proofs.YtobhpeockinnjaaGreatDoor
/- signed and example of pandectlaw44. No conditions but those that each theorem states. -/
namespace Go.Proofs.YtobhpeockinnjaaGreatDoor
open Go Go.RowKit Go.Sort Go.Maps
attribute [local go_sem] Oper.semAt_some
theorem results_tmp_cell {fn : Func} {p u : Tmp} {ty : TypeId} (h : fn.results = #[.tmp u, .cell p ty]) (tmps : Array Value) (P : Program) (w : World) :
    (results fn tmps).run P w =
      ((asAddr (tmps.getD p undef)).run P w).andThen fun a w₁ => ((loadVar ty a).run P w₁).andThen fun v w₂ => .ok (.tuple #[tmps.getD u undef, v]) w₂ := by
  simp only [results, h]
  simp [Sem.run_bind, Result.andThen]
theorem results_tc {fn : Func} {p u : Tmp} {ty : TypeId} (h : fn.results = #[.tmp u, .cell p ty]) (tmps : Array Value) (w : World) (g : Nat) (t : TypeId) (cs : Array Value) (fr : Nat × Nat) (fs : Array Field)
    (hp : tmps.getD p undef = .pointer (some ⟨g, 0, none⟩)) (hg : w.heap[g]? = some (.cells cs t fr))
    (hu : Tryz.prog.underlying ty = some (.struct fs)) (hi : (Tryz.prog.info? ty).map (·.size) = some cs.size) :
    (results fn tmps).run Tryz.prog w = .ok (.tuple #[tmps.getD u undef, .agg cs]) w := by
  rw [results_tmp_cell h, hp]
  simp only [asAddr, Sem.run_pure, Result.andThen_ok]
  rw [run_loadVar_row w g t ty cs fr (.struct fs) hg hu rfl hi]
  rfl
/-- Three cells written. -/
def set3 (X : World) (g : Nat) (v0 v1 v2 : Value) : World := ((X.setCell ⟨g, 0, none⟩ v0).setCell ⟨g, 1, none⟩ v1).setCell ⟨g, 2, none⟩ v2
theorem set3_row {X : World} {g : Nat} {a0 a1 a2 : Value} {T : TypeId} (h : X.heap[g]? = some (.cells #[a0, a1, a2] T (0, 0))) (v0 v1 v2 : Value) : (set3 X g v0 v1 v2).heap[g]? = some (.cells #[v0, v1, v2] T (0, 0)) := by
  have h0 := setCell_rowN h 0 v0
  simp only [List.setIfInBounds_toArray, List.set_cons_zero] at h0
  have h1 := setCell_rowN h0 1 v1
  simp only [List.setIfInBounds_toArray, List.set_cons_zero, List.set_cons_succ] at h1
  have h2 := setCell_rowN h1 2 v2
  simp only [List.setIfInBounds_toArray, List.set_cons_zero, List.set_cons_succ] at h2
  unfold set3
  exact h2
theorem set3_below {B : Nat} {a X : World} {g : Nat} (hb : Below B a X) (hg : B ≤ g) (v0 v1 v2 : Value) : Below B a (set3 X g v0 v1 v2) := by
  unfold set3
  exact ((hb.setCell (p := ⟨g, 0, none⟩) hg v0).setCell (p := ⟨g, 1, none⟩) hg v1).setCell (p := ⟨g, 2, none⟩) hg v2
theorem set3_size (X : World) (g : Nat) (v0 v1 v2 : Value) : (set3 X g v0 v1 v2).heap.size = X.heap.size := by
  unfold set3
  simp [World.setCell]
theorem set3_off {X : World} {g : Nat} (v0 v1 v2 : Value) {k : Nat} (h : k ≠ g) : (set3 X g v0 v1 v2).heap[k]? = X.heap[k]? := by
  unfold set3
  simp only [World.setCell]
  rw [Array.getElem?_modify, if_neg (fun e => h e.symm), Array.getElem?_modify, if_neg (fun e => h e.symm), Array.getElem?_modify, if_neg (fun e => h e.symm)]
theorem strs_off {X X' : World} {B : Nat} {A : Option Addr} {l : List ByteArray} {g : Nat} {a0 a1 a2 : Value} {T : TypeId} (h : Strs X B A l) (hr : X.heap[g]? = some (.cells #[a0, a1, a2] T (0, 0))) (h0 : ∀ s, a0 ≠ .string s) (h1 : ∀ s, a1 ≠ .string s) (h2 : ∀ s, a2 ≠ .string s) (_v0 _v1 _v2 : Value) (hX : ∀ k, k ≠ g → X'.heap[k]? = X.heap[k]?) : Strs X' B A l :=
  ⟨fun hl => by
    obtain ⟨b, off, e, hlt, hc⟩ := h.at_ hl
    refine ⟨b, off, e, hlt, fun j s hj => ?_⟩
    have hne : b ≠ g := fun e => by
      subst e
      have h9 := hc j s hj
      rw [cell_of_row _ _ _ _ _ (0, 0) hr] at h9
      generalize off + j = q at h9
      match q with
      | 0 => exact h0 s (Option.some.inj h9)
      | 1 => exact h1 s (Option.some.inj h9)
      | 2 => exact h2 s (Option.some.inj h9)
      | q + 3 => simp at h9
    exact (World.cell?_of_block (a := ⟨b, off + j, none⟩) (hX b hne)).trans (hc j s hj)⟩
theorem below_drew3 {B : Nat} {a w : World} (h : Below B a w) : Below B a w.drew := ⟨h.os, h.tape, h.output, h.size, h.block⟩
theorem strs_drew3 {w : World} {B : Nat} {A : Option Addr} {l : List ByteArray} (h : Strs w B A l) : Strs w.drew B A l := ⟨fun hl => h.at_ hl⟩
def offB : ByteArray := ⟨#[111, 102, 102, 105, 99, 101]⟩
def othB : ByteArray := ⟨#[111, 116, 104, 101, 114]⟩
def secB (wr : Bool) : ByteArray := if wr then othB else offB
set_option maxRecDepth 100000 in
set_option maxHeartbeats 4000000 in
theorem signed_of (day count : Int) (root : ByteArray) (wr : Bool) (h0 : -9223372036854775808 ≤ day) (h1 : day ≤ 9223372036854775807) (k0 : -9223372036854775808 ≤ count) (k1 : count ≤ 9223372036854775807) (hr : root.size ≤ 1048576) (w : World) (he : Env w) (K : ByteArray) (hK : Dg.publicB offB 0 = K) (SG : List ByteArray) (hSG : Dg.sigB (secB wr) 0 (msgB day count root) = SG) :
    Calls Tryz.prog 21 #[.agg #[.int .i64 day, .int .i64 count, .string root, .bool wr]] w fun e w' => ∃ A c A' c', e = .returned (.tuple #[.string K, .agg #[.int .i64 0, .slice A 18 c, .slice A' 0 c']]) ∧ 18 ≤ c ∧ Strs w' w'.heap.size A SG ∧ Below w.heap.size w w' := by
  have HK := hide hK; have HSG := hide hSG; have HR := hide hr
  clear hK hSG hr
  have hx1 := Below.news (Below.refl w.heap.size w) (.cells #[.int .i64 day, .int .i64 count, .string root, .bool wr] 46)
  have hr1 := heap_alloc_new w (.cells #[.int .i64 day, .int .i64 count, .string root, .bool wr] 46)
  have he1 := he.next hx1
  go_enter Tryz.func21, Tryz.ntmps21
  have hx2 := Below.news (Below.refl (w.alloc (.cells #[.int .i64 day, .int .i64 count, .string root, .bool wr] 46)).heap.size (w.alloc (.cells #[.int .i64 day, .int .i64 count, .string root, .bool wr] 46))) (.cells #[.int .i64 0, .slice none 0 0, .slice none 0 0] 42)
  have hr2 := heap_alloc_new (w.alloc (.cells #[.int .i64 day, .int .i64 count, .string root, .bool wr] 46)) (.cells #[.int .i64 0, .slice none 0 0, .slice none 0 0] 42)
  have hr12 := iNext hr1 hx2
  have he2 := he1.next hx2
  have hb2 := bnext hx1 hx2
  rw [World.size_alloc] at hr2
  go_wp2_with fail
  refine (public_of offB 0 0 rfl (by decide) (by decide) K HK.out _ he2).mono ?_
  rintro e w3 ⟨rfl, hx3⟩
  have hb3 := bnext hb2 hx3
  have he3 := he2.next hx3
  have rr1 := iNext hr12 hx3
  have rr2 := iNext hr2 hx3
  clear hb2 he2 hr12 hr2 hr1 hx1 hx2 he1 hx3 he
  have q0 : w3.cell? ⟨w.heap.size, 0, none⟩ = some (.int .i64 day) := by rw [cell_of_row _ _ _ _ _ (0, 0) rr1]; rfl
  have q1 : w3.cell? ⟨w.heap.size, 1, none⟩ = some (.int .i64 count) := by rw [cell_of_row _ _ _ _ _ (0, 0) rr1]; rfl
  have q2 : w3.cell? ⟨w.heap.size, 2, none⟩ = some (.string root) := by rw [cell_of_row _ _ _ _ _ (0, 0) rr1]; rfl
  have q3 : w3.cell? ⟨w.heap.size, 3, none⟩ = some (.bool wr) := by rw [cell_of_row _ _ _ _ _ (0, 0) rr1]; rfl
  cases wr
  all_goals
    go_wp2_with fail
    refine (pmsg_of day count root h0 h1 k0 k1 HR.out _ rfl _ he3).mono ?_
    rintro e w4 ⟨rfl, hx4⟩
    have hb4 := bnext hb3 hx4
    have he4 := he3.next hx4
    have tt2 := iNext rr2 hx4
    clear hx4 q0 q1 q2 q3 rr1
    go_wp2_with fail
    refine (sign_of _ (msgB day count root) 0 0 0 0 rfl rfl (by decide) (by rw [msgB_size]; decide) (by decide) (by decide) SG [] HSG.out (List.eq_nil_of_length_eq_zero (Dg.sealPath_len _ _ _ (by decide))) _ he4).mono ?_
    rintro e w5 ⟨A, c, A', c', rfl, hc, hc', hS, hS', hx5⟩
    have hb5 := bnext hb4 hx5
    have tu2 := iNext tt2 hx5
    clear hx5 tt2 he4 hb4 hb3 he3 rr2
    have hx6 := Below.news (Below.refl w5.heap.size w5) (.cells #[.int .i64 0, .slice A 18 c, .slice A' 0 c'] 42)
    have hr6 := heap_alloc_new w5 (.cells #[.int .i64 0, .slice A 18 c, .slice A' 0 c'] 42)
    have tv2 := iNext tu2 hx6
    have hS6 := keepS hS hx6
    have hb6 := bnext hb5 hx6
    have hlt : w.heap.size + 1 < w5.heap.size := (Array.getElem?_eq_some_iff.1 tu2).1
    go_wp2_with fail
    clear tu2 hx6 hb5 hS hS'
    generalize w5.alloc (.cells #[.int .i64 0, .slice A 18 c, .slice A' 0 c'] 42) = w6 at *
    generalize w5.heap.size = b6 at *
    obtain ⟨z0, z1, z2⟩ := jCells3 hr6
    obtain ⟨y0, y1, y2⟩ := jCells3 tv2
    have f0 := frozen_of_row _ _ 0 _ _ tv2
    have f1 := frozen_of_row _ _ 1 _ _ tv2
    have f2 := frozen_of_row _ _ 2 _ _ tv2
    go_region
    go_wp2
    refine bodyPost_ret (results_tc Tryz.results21 _ _ (w.heap.size + 1) 42 #[.int .i64 0, .slice A 18 c, .slice A' 0 c'] (0, 0) _ rfl (set3_row tv2 (.int .i64 0) (.slice A 18 c) (.slice A' 0 c')) Tryz.underlying42 (by kernel_rfl)) rfl ⟨A, c, A', c', rfl, hc, ?_, below_drew3 (set3_below (g := w.heap.size + 1) hb6 (by omega) (.int .i64 0) (.slice A 18 c) (.slice A' 0 c'))⟩
    have h9 := strs_off (X' := set3 w6 (w.heap.size + 1) (.int .i64 0) (.slice A 18 c) (.slice A' 0 c')) hS6 tv2 (fun s => by simp) (fun s => by simp) (fun s => by simp) (.int .i64 0) (.slice A 18 c) (.slice A' 0 c') (fun k hk => set3_off _ _ _ hk)
    exact strs_drew3 (h9.more (Nat.le_of_eq (set3_size w6 (w.heap.size + 1) (.int .i64 0) (.slice A 18 c) (.slice A' 0 c')).symm))
end Go.Proofs.YtobhpeockinnjaaGreatDoor
/- few of the laws. No conditions but those that each theorem states. -/
namespace Go.Proofs.YtobhpeockinnjaaGreatDoor
open Go Go.RowKit Go.Sort Go.Maps
/-- A code as it lies: its items, where, and how many there is room for. -/
structure Cd where
  l : List Dg.It
  A : Option Addr
  c : Nat
/-- Codes in a row. -/
structure Cds (w : World) (b : Nat) (ds : List Cd) : Prop where
  lt : b < w.heap.size
  at_ : ∀ (j : Nat) d, ds[j]? = some d → w.cell? ⟨b, j, none⟩ = some (.slice d.A d.l.length d.c) ∧ Its w w.heap.size d.A d.l ∧ d.l.length ≤ 9223372036854775807
theorem Cds.keep {w w' : World} {b : Nat} {ds : List Cd} (h : Cds w b ds) (hb : Below w.heap.size w w') : Cds w' b ds :=
  ⟨Nat.lt_of_lt_of_le h.lt hb.size, fun j d hj => by
    obtain ⟨h1, h2, h3⟩ := h.at_ j d hj
    exact ⟨(hb.cell (p := ⟨b, j, none⟩) h.lt).trans h1, h2.keep hb, h3⟩⟩
end Go.Proofs.YtobhpeockinnjaaGreatDoor
/- The example of pandectlaw44. No conditions but those that each theorem states. -/
namespace Go.Proofs.YtobhpeockinnjaaGreatDoor
open Go Go.RowKit Go.Sort Go.Maps
def exL : List Dg.It := [⟨2, ⟨#[97]⟩, ⟨#[]⟩, ⟨#[49]⟩, ⟨#[110]⟩, ⟨#[115]⟩, false⟩, ⟨2, ⟨#[98]⟩, ⟨#[]⟩, ⟨#[]⟩, ⟨#[]⟩, ⟨#[]⟩, true⟩, ⟨2, ⟨#[99]⟩, ⟨#[]⟩, ⟨#[]⟩, ⟨#[]⟩, ⟨#[]⟩, false⟩]
theorem exL_w : ∀ x ∈ exL, ItW x := by
  have h : ∀ x ∈ exL, (0 ≤ x.kind ∧ x.kind ≤ 2) ∧ x.id.size ≤ 2 ∧ x.parent.size ≤ 2 ∧ x.number.size ≤ 2 ∧ x.north.size ≤ 2 ∧ x.south.size ≤ 2 := by decide +kernel
  intro x hx
  obtain ⟨⟨h0, h1⟩, h2, h3, h4, h5, h6⟩ := h x hx
  exact ⟨by omega, by omega, by omega, by omega, by omega, by omega, by omega⟩
theorem exL_fields : ∀ x ∈ exL, ∀ s ∈ Dg.fieldsI x, s.size ≤ 100 := by decide +kernel
set_option maxRecDepth 100000 in
set_option maxHeartbeats 8000000 in
theorem example_of (w : World) :
    Calls Tryz.prog 40 #[] w fun e w' => ∃ b, e = .returned (.agg #[.slice (some ⟨b, 0, none⟩) 3 3]) ∧ Its w' w'.heap.size (some ⟨b, 0, none⟩) exL ∧ Below w.heap.size w w' := by
  go_enter Tryz.func40, Tryz.ntmps40
  go_wp2
  have hs1 : (w.alloc (.cells #[.slice (some ⟨w.heap.size + 1, 0, none⟩) 3 3] 24)).heap.size = w.heap.size + 1 := by simp
  have hx1 := Below.news (Below.refl w.heap.size w) (.cells #[.slice (some ⟨w.heap.size + 1, 0, none⟩) 3 3] 24)
  have hr1 := heap_alloc_new w (.cells #[.slice (some ⟨w.heap.size + 1, 0, none⟩) 3 3] 24)
  generalize w.alloc (.cells #[.slice (some ⟨w.heap.size + 1, 0, none⟩) 3 3] 24) = W1 at *
  have hO := OwnI.lit W1 W1.heap.size (Nat.le_refl _) exL 3 rfl (by decide) #[.int .i64 2, .string ⟨#[97]⟩, .string ⟨#[]⟩, .string ⟨#[49]⟩, .string ⟨#[110]⟩, .string ⟨#[115]⟩, .bool false, .int .i64 2, .string ⟨#[98]⟩, .string ⟨#[]⟩, .string ⟨#[]⟩, .string ⟨#[]⟩, .string ⟨#[]⟩, .bool true, .int .i64 2, .string ⟨#[99]⟩, .string ⟨#[]⟩, .string ⟨#[]⟩, .string ⟨#[]⟩, .string ⟨#[]⟩, .bool false] rfl
  have hx2 := Below.news (Below.refl W1.heap.size W1) (.cells #[.int .i64 2, .string ⟨#[97]⟩, .string ⟨#[]⟩, .string ⟨#[49]⟩, .string ⟨#[110]⟩, .string ⟨#[115]⟩, .bool false, .int .i64 2, .string ⟨#[98]⟩, .string ⟨#[]⟩, .string ⟨#[]⟩, .string ⟨#[]⟩, .string ⟨#[]⟩, .bool true, .int .i64 2, .string ⟨#[99]⟩, .string ⟨#[]⟩, .string ⟨#[]⟩, .string ⟨#[]⟩, .string ⟨#[]⟩, .bool false] 26)
  have hrw := iNext hr1 hx2
  have hb := bnext hx1 hx2
  obtain ⟨A, c, e, _, hI⟩ := hO.its
  rw [hs1] at e
  cases e
  generalize W1.alloc (.cells #[.int .i64 2, .string ⟨#[97]⟩, .string ⟨#[]⟩, .string ⟨#[49]⟩, .string ⟨#[110]⟩, .string ⟨#[115]⟩, .bool false, .int .i64 2, .string ⟨#[98]⟩, .string ⟨#[]⟩, .string ⟨#[]⟩, .string ⟨#[]⟩, .string ⟨#[]⟩, .bool true, .int .i64 2, .string ⟨#[99]⟩, .string ⟨#[]⟩, .string ⟨#[]⟩, .string ⟨#[]⟩, .string ⟨#[]⟩, .bool false] 26) = W2 at *
  clear hO hx2 hx1 hr1
  refine bodyPost_ret (results_cell_row (P := Tryz.prog) Tryz.results40 _ _ w.heap.size 24 #[.slice (some ⟨w.heap.size + 1, 0, none⟩) 3 3] (0, 0) _ rfl hrw Tryz.underlying24 rfl (by kernel_rfl)) rfl ⟨_, rfl, hI, hb⟩
end Go.Proofs.YtobhpeockinnjaaGreatDoor
/- Concrete facts for head of pandectlaw44. No conditions but those that each theorem states. -/
namespace Go.Proofs.YtobhpeockinnjaaGreatDoor
open Go Go.RowKit Go.Sort Go.Maps
def exR : ByteArray := Dg.root (Dg.leavesC exL)
def exO : ByteArray := Dg.emptyB
theorem ex_len : (Dg.leavesC exL).length = 2 := by decide +kernel
def exA : Dg.It := ⟨2, ⟨#[97]⟩, ⟨#[]⟩, ⟨#[]⟩, ⟨#[110]⟩, ⟨#[115]⟩, false⟩
theorem ex_a0 : (makeE exL ⟨#[97]⟩).2 = 0 ∧ (makeE exL ⟨#[97]⟩).1.count = 2 ∧ (makeE exL ⟨#[97]⟩).1.idx = 0 ∧ (makeE exL ⟨#[97]⟩).1.it.kind = 2 ∧ (makeE exL ⟨#[97]⟩).1.it.id = ⟨#[97]⟩ ∧ (makeE exL ⟨#[97]⟩).1.it.parent = ⟨#[]⟩ ∧ (makeE exL ⟨#[97]⟩).1.it.number = ⟨#[]⟩ ∧ (makeE exL ⟨#[97]⟩).1.it.north = ⟨#[110]⟩ ∧ (makeE exL ⟨#[97]⟩).1.it.south = ⟨#[115]⟩ ∧ (makeE exL ⟨#[97]⟩).1.it.gone = false ∧ (makeE exL ⟨#[97]⟩).1.path.length = 1 := by decide +kernel
theorem ex_a : ∃ q : ByteArray, makeE exL ⟨#[97]⟩ = (⟨2, 0, exA, [q]⟩, 0) := by
  obtain ⟨h0, h1, h2, h3, h4, h5, h6, h7, h8, h9, h10⟩ := ex_a0
  generalize makeE exL ⟨#[97]⟩ = X at *
  obtain ⟨⟨c, i, ⟨a1, a2, a3, a4, a5, a6, a7⟩, P⟩, e⟩ := X
  simp only at *
  subst h0 h1 h2 h3 h4 h5 h6 h7 h8 h9
  match P, h10 with
  | [q], _ => exact ⟨q, rfl⟩
theorem ex_b : (makeE exL ⟨#[98]⟩).2 = 16 := by decide +kernel
theorem ex_x : (makeE exL ⟨#[120]⟩).2 = 11 := by decide +kernel
theorem ex_chk : checkP exR (makeE exL ⟨#[97]⟩).1 = true := by decide +kernel
theorem ex_isR : Dg.isB exR = true := by decide +kernel
theorem ex_isO : Dg.isB exO = true := by decide +kernel
theorem ex_ne : exR ≠ exO := by decide +kernel
theorem ex_rsz : exR.size ≤ 1000 := by decide +kernel
theorem ex_osz : exO.size ≤ 1000 := by decide +kernel
end Go.Proofs.YtobhpeockinnjaaGreatDoor
/- Two seals that do not hold, for head of pandectlaw44. No conditions but those that each theorem states. -/
namespace Go.Proofs.YtobhpeockinnjaaGreatDoor
open Go Go.RowKit Go.Sort Go.Maps
set_option maxRecDepth 1000000 in
theorem ex_v6 : verifyB (Dg.publicB offB 0) (msgB 6 2 exR) 0 (Dg.sigB offB 0 (msgB 5 2 exR)) [] = false := by decide +kernel
set_option maxRecDepth 1000000 in
theorem ex_v7 : verifyB (Dg.publicB offB 0) (msgB 7 2 exR) 0 (Dg.sigB othB 0 (msgB 7 2 exR)) [] = false := by decide +kernel
end Go.Proofs.YtobhpeockinnjaaGreatDoor
/- Ints of the reference; signed and example of pandectlaw44. No conditions but those that each theorem states. -/
namespace Go.Proofs.YtobhpeockinnjaaGreatDoor
open Go Go.RowKit Go.Sort Go.Maps
attribute [local go_sem] Oper.semAt_some
theorem Zs.get {w : World} {B : Nat} {A : Option Addr} {l : List Int} (h : Zs w B A l) {k : Nat} (hk : k < l.length) : ∃ b off, A = some ⟨b, off, none⟩ ∧ b < B ∧ w.cell? ⟨b, off + k, none⟩ = some (.int .i64 l[k]) := by
  obtain ⟨b, off, e, hb, hc⟩ := h.at_ (by omega)
  exact ⟨b, off, e, hb, hc k _ (List.getElem?_eq_getElem hk)⟩
theorem Zs.below {w w' : World} {B : Nat} {A : Option Addr} {l : List Int} (h : Zs w B A l) (hb : Below B w w') : Zs w' B A l :=
  ⟨fun hl => by
    obtain ⟨b, off, e, hlt, hc⟩ := h.at_ hl
    exact ⟨b, off, e, hlt, fun j s hj => (hb.cell (p := ⟨b, off + j, none⟩) hlt).trans (hc j s hj)⟩⟩
theorem ints_any (A A' : Option Addr) (c c' : Nat) (l m : List Int) (w : World) (hl : l.length ≤ 9223372036854775807) (_hl' : m.length ≤ 9223372036854775807) (hr : Zs w w.heap.size A l) (hr' : Zs w w.heap.size A' m) :
    Calls Tryz.prog 28 #[.slice A l.length c, .slice A' m.length c'] w fun e w' => e = .returned (.bool (decide (l = m))) ∧ Below w.heap.size w w' := by
  by_cases hlen : l.length = m.length
  · have hne : ((l.length : Int) != (m.length : Int)) = false := by rw [bne_eq_false_iff_eq]; omega
    go_enter Tryz.func28, Tryz.ntmps28
    go_wp2
    go_loopw [5] (fun i wr => ∃ k : Nat, k ≤ l.length ∧ i = .int .i64 k ∧ Below w.heap.size w wr ∧ Hid (l.take k = m.take k)) (fun i _ => l.length - (intOf i).toNat)
    case atStart => exact ⟨0, by omega, rfl, Below.refl _ _, rfl⟩
    case round =>
      obtain ⟨k, hk, rfl, hb, hall⟩ := hrel
      by_cases hlt : k < l.length
      · have hlt' : k < m.length := by omega
        obtain ⟨b, off, rfl, hbl, hcell⟩ := (hr.below hb).get hlt
        obtain ⟨b', off', rfl, hbl', hcell'⟩ := (hr'.below hb).get hlt'
        have hts := hide (List.take_succ_eq_append_getElem hlt)
        have hts' := hide (List.take_succ_eq_append_getElem hlt')
        have hg := hide (List.getElem?_eq_getElem hlt)
        have hg' := hide (List.getElem?_eq_getElem hlt')
        generalize l[k] = x at *
        generalize m[k] = y at *
        by_cases hxy : x = y
        · have ht : (x != y) = false := by simpa using hxy
          have HXY := hide hxy; clear hxy
          go_wp2
          go_quiet (fail)
          go_wp2
          go_roundw
          case rel => exact ⟨k + 1, by omega, by go_num, below_drewN hb _, by unfold Hid; rw [hts.out, hts'.out, hall.out, HXY.out]⟩
          case measure => simp [intOf]; omega
        · have ht : (x != y) = true := by simpa using hxy
          have HXY := hide hxy; clear hxy
          go_wp2
          go_quiet (fail)
          go_wp2
          go_ret
          refine ⟨ret_bool (decide_eq_false ?_).symm, below_drewN hb _⟩
          intro h
          have h1 := hg.out
          rw [h, hg'.out] at h1
          exact HXY.out (Option.some.inj h1).symm
      · obtain rfl : k = l.length := by omega
        have h1 := hall.out
        rw [List.take_length, List.take_of_length_le (by omega)] at h1
        go_wp2
        go_ret
        exact ⟨ret_bool (decide_eq_true h1).symm, hb⟩
  · have hne : ((l.length : Int) != (m.length : Int)) = true := by rw [bne_iff_ne]; omega
    go_enter Tryz.func28, Tryz.ntmps28
    go_wp2
    go_ret
    exact ⟨ret_bool (decide_eq_false (fun h => hlen (by rw [h]))).symm, Below.refl _ _⟩
end Go.Proofs.YtobhpeockinnjaaGreatDoor
/- Same of the reference for codes. No conditions but those that each theorem states. -/
namespace Go.Proofs.YtobhpeockinnjaaGreatDoor
open Go Go.RowKit Go.Sort Go.Maps
theorem bytes_beq (a b : ByteArray) : (a.toList == b.toList) = true ↔ a = b := by
  rw [beq_iff_eq]
  constructor
  · intro h
    rw [ByteArray.toList_eq, ByteArray.toList_eq] at h
    obtain ⟨⟨x⟩⟩ := a
    obtain ⟨⟨y⟩⟩ := b
    simpa using h
  · rintro rfl; rfl
theorem it_ext {x y : Dg.It} (h1 : x.kind = y.kind) (h2 : x.id = y.id) (h3 : x.parent = y.parent) (h4 : x.number = y.number) (h5 : x.north = y.north) (h6 : x.south = y.south) (h7 : x.gone = y.gone) : x = y := by
  cases x; cases y; simp_all
def sameI (x y : Dg.It) : Bool := (x.kind == y.kind) && ((x.id.toList == y.id.toList) && ((x.parent.toList == y.parent.toList) && ((x.number.toList == y.number.toList) && ((x.north.toList == y.north.toList) && ((x.south.toList == y.south.toList) && (x.gone == y.gone))))))
theorem sameI_iff (x y : Dg.It) : sameI x y = true ↔ x = y := by
  unfold sameI
  rw [Bool.and_eq_true, Bool.and_eq_true, Bool.and_eq_true, Bool.and_eq_true, Bool.and_eq_true, Bool.and_eq_true, bytes_beq, bytes_beq, bytes_beq, bytes_beq, bytes_beq, beq_iff_eq, beq_iff_eq]
  constructor
  · rintro ⟨h1, h2, h3, h4, h5, h6, h7⟩
    exact it_ext h1 h2 h3 h4 h5 h6 h7
  · rintro rfl
    exact ⟨rfl, rfl, rfl, rfl, rfl, rfl, rfl⟩
set_option maxRecDepth 100000 in
theorem item_run (w : World) (x y : Dg.It) : (binOp .neq 26 (.agg #[.int .i64 x.kind, .string x.id, .string x.parent, .string x.number, .string x.north, .string x.south, .bool x.gone]) (.agg #[.int .i64 y.kind, .string y.id, .string y.parent, .string y.number, .string y.north, .string y.south, .bool y.gone])).run Tryz.prog w = .ok (.bool (!sameI x y)) w := by
  have hS : Tryz.prog.underlying 26 = some (.struct (Tryz.prog.fieldsOf 26)) := by kernel_rfl
  have hp : Tryz.prog.stoodInHeld 26 = false := by kernel_rfl
  rw [run_neq_struct, show (10000 : Nat) = 9999 + 1 from rfl, run_equalIn_agg w 9999 26 _ _ hS hp]
  simp only [Program.fieldsOf, Tryz.underlying26]
  have u3 := Tryz.underlying3
  have u4 := Tryz.underlying4
  have u5 := Tryz.underlying9
  have a3 := Tryz.isAgg3
  have a4 := Tryz.isAgg4
  have a5 := Tryz.isAgg9
  have z3 := Tryz.sizeOf3
  have z4 := Tryz.sizeOf4
  have z5 := Tryz.sizeOf9
  go_simp
  unfold sameI
  by_cases h1 : x.kind = y.kind <;> by_cases h2 : x.id.toList = y.id.toList <;> by_cases h3 : x.parent.toList = y.parent.toList <;> by_cases h4 : x.number.toList = y.number.toList <;> by_cases h5 : x.north.toList = y.north.toList <;> by_cases h6 : x.south.toList = y.south.toList <;> by_cases h7 : x.gone = y.gone <;> simp [h1, h2, h3, h4, h5, h6, h7]
end Go.Proofs.YtobhpeockinnjaaGreatDoor
/- head of pandectlaw44. No conditions but those that each theorem states. -/
namespace Go.Proofs.YtobhpeockinnjaaGreatDoor
open Go Go.RowKit Go.Sort Go.Maps
attribute [local go_sem] Oper.semAt_some
theorem map_row {w : World} {H : Type} {R : Value → Option (DataW H × List MemPlace)} {k : TypeId} {b n : Nat} {D : DataW H} (h : w.ownsMap Tryz.prog k R b n D) : ∀ (off : Nat), w.cell? ⟨b, off, none⟩ = none := by
  intro off
  obtain ⟨es, z, h1, _⟩ := h
  simp [World.cell?, h1]
theorem strs_offm {X X' : World} {B mb : Nat} {A : Option Addr} {l : List ByteArray} (h : Strs X B A l) (hm : ∀ off, X.cell? ⟨mb, off, none⟩ = none) (hB : B ≤ X.heap.size) (ho : Off [mb] X X') : Strs X' X'.heap.size A l :=
  ⟨fun hl => by
    obtain ⟨b, off, e, hlt, hc⟩ := h.at_ hl
    refine ⟨b, off, e, Nat.lt_of_lt_of_le hlt (Nat.le_trans hB ho.size), fun j s hj => ?_⟩
    have hne : b ≠ mb := fun e => by
      have h9 := hc j s hj
      rw [e, hm] at h9; cases h9
    exact (World.cell?_of_block (a := ⟨b, off + j, none⟩) (ho.block b (Nat.lt_of_lt_of_le hlt hB) (by simpa using hne))).trans (hc j s hj)⟩
/-- A seal in memory. -/
structure SR (b : Nat) (A : Option Addr) (c : Nat) (A' : Option Addr) (c' : Nat) (sg : List ByteArray) (X : World) : Prop where
  row : X.heap[b]? = some (.cells #[.int .i64 0, .slice A 18 c, .slice A' 0 c'] 42 (0, 0))
  strs : Strs X X.heap.size A sg
theorem SR.next {b : Nat} {A : Option Addr} {c : Nat} {A' : Option Addr} {c' : Nat} {sg : List ByteArray} {X X' : World} (h : SR b A c A' c' sg X) (hb : Below X.heap.size X X') : SR b A c A' c' sg X' := ⟨iNext h.row hb, keepS h.strs hb⟩
theorem SR.learn {b mb : Nat} {A : Option Addr} {c : Nat} {A' : Option Addr} {c' : Nat} {sg : List ByteArray} {X X' : World} (h : SR b A c A' c' sg X) (hm : ∀ off, X.cell? ⟨mb, off, none⟩ = none) (ho : Off [mb] X X') (hne : b ≠ mb) : SR b A c A' c' sg X' := ⟨ho.row h.row (by simpa using hne), strs_offm h.strs hm (Nat.le_refl _) ho⟩
theorem SR.new {A : Option Addr} {c : Nat} {A' : Option Addr} {c' : Nat} {sg : List ByteArray} {X : World} (h : Strs X X.heap.size A sg) : SR X.heap.size A c A' c' sg (X.alloc (.cells #[.int .i64 0, .slice A 18 c, .slice A' 0 c'] 42)) := ⟨heap_alloc_new X _, keepS h (Below.news (Below.refl _ _) _)⟩
/-- A proof of the example in memory. -/
structure PR (b : Nat) (A : Option Addr) (c : Nat) (q : ByteArray) (X : World) : Prop where
  row : X.heap[b]? = some (.cells #[.int .i64 2, .int .i64 0, .int .i64 2, .string ⟨#[97]⟩, .string ⟨#[]⟩, .string ⟨#[]⟩, .string ⟨#[110]⟩, .string ⟨#[115]⟩, .bool false, .slice A 1 c] 29 (0, 0))
  strs : Strs X X.heap.size A [q]
theorem PR.next {b : Nat} {A : Option Addr} {c : Nat} {q : ByteArray} {X X' : World} (h : PR b A c q X) (hb : Below X.heap.size X X') : PR b A c q X' := ⟨iNext h.row hb, keepS h.strs hb⟩
theorem PR.learn {b mb : Nat} {A : Option Addr} {c : Nat} {q : ByteArray} {X X' : World} (h : PR b A c q X) (hm : ∀ off, X.cell? ⟨mb, off, none⟩ = none) (ho : Off [mb] X X') (hne : b ≠ mb) : PR b A c q X' := ⟨ho.row h.row (by simpa using hne), strs_offm h.strs hm (Nat.le_refl _) ho⟩
theorem PR.new {A : Option Addr} {c : Nat} {q : ByteArray} {X : World} (h : Strs X X.heap.size A [q]) : PR X.heap.size A c q (X.alloc (.cells #[.int .i64 2, .int .i64 0, .int .i64 2, .string ⟨#[97]⟩, .string ⟨#[]⟩, .string ⟨#[]⟩, .string ⟨#[110]⟩, .string ⟨#[115]⟩, .bool false, .slice A 1 c] 29)) := ⟨heap_alloc_new X _, keepS h (Below.news (Below.refl _ _) _)⟩
/-- The example's code in memory. -/
structure KR (b d : Nat) (X : World) : Prop where
  row : X.heap[b]? = some (.cells #[.slice (some ⟨d, 0, none⟩) 3 3] 24 (0, 0))
  its : Its X X.heap.size (some ⟨d, 0, none⟩) exL
theorem KR.next {b d : Nat} {X X' : World} (h : KR b d X) (hb : Below X.heap.size X X') : KR b d X' := ⟨iNext h.row hb, (h.its.below hb).more hb.size⟩
theorem KR.new {d : Nat} {X : World} (h : Its X X.heap.size (some ⟨d, 0, none⟩) exL) : KR X.heap.size d (X.alloc (.cells #[.slice (some ⟨d, 0, none⟩) 3 3] 24)) := ⟨heap_alloc_new X _, (h.below (Below.news (Below.refl _ _) _)).more (by simp)⟩
theorem KR.cell {b d : Nat} {X : World} (h : KR b d X) : X.cell? ⟨b, 0, none⟩ = some (.slice (some ⟨d, 0, none⟩) 3 3) := by rw [cell_of_row _ _ _ _ _ (0, 0) h.row]; rfl
end Go.Proofs.YtobhpeockinnjaaGreatDoor
/- Plain facts for head of pandectlaw44. No conditions but those that each theorem states. -/
namespace Go.Proofs.YtobhpeockinnjaaGreatDoor
open Go Go.RowKit Go.Sort Go.Maps
abbrev exD1 : List Dy := [(5, 2, exR)]
abbrev exD2 : List Dy := [(5, 2, exR), (5, 2, exR)]
theorem not_bad {d c : Int} {r : ByteArray} (h0 : 0 ≤ d) (h1 : d ≤ 1000000) (h2 : 0 ≤ c) (h3 : c ≤ 2000) (h4 : Dg.isB r = true) : ¬ learnBad d c r := fun h => by
  rcases h with h | h | h | h | h
  · omega
  · omega
  · omega
  · omega
  · rw [h4] at h; cases h
theorem ex_l1 : learnE [] true 5 2 exR = (0, exD1) := learnE_new (not_bad (by decide) (by decide) (by decide) (by decide) ex_isR) rfl
theorem ex_l2 : learnE exD1 true 5 2 exR = (0, exD2) := learnE_same (not_bad (by decide) (by decide) (by decide) (by decide) ex_isR) (by simp [foundD])
theorem ex_l3 : learnE exD2 true 5 2 exO = (23, exD2) := learnE_fork (c0 := 2) (r0 := exR) (not_bad (by decide) (by decide) (by decide) (by decide) ex_isO) (by simp [foundD]) (fun h => ex_ne h.2)
theorem ex_l4 : learnE exD2 false 6 2 exR = (19, exD2) := learnE_key (not_bad (by decide) (by decide) (by decide) (by decide) ex_isR)
theorem ex_l5 : learnE exD2 false 7 2 exR = (19, exD2) := learnE_key (not_bad (by decide) (by decide) (by decide) (by decide) ex_isR)
theorem ex_w1 {p : Pf} (hc : p.count = 2) (h : checkP exR p = true) : wasE exD2 5 p = 0 := by
  unfold wasE
  simp [foundD, hc, h]
theorem ex_w2 (p : Pf) : wasE exD2 6 p = 11 := by
  unfold wasE
  simp [foundD]
theorem ex_w3 : wasE exD2 5 noPf = 21 := by
  unfold wasE
  simp [foundD, noPf]
theorem ex_days : daysS exD2 = [5] := by
  have h : intKeys (daysD exD2) = [5] := by
    rfl
  unfold daysS
  rw [h, List.mergeSort_singleton]
theorem ex_v1 (m : ByteArray) : verifyB (Dg.publicB offB 0) m 0 (Dg.sigB offB 0 m) [] = true := by
  have h := verifyB_self offB m 0 0 (by decide) (by decide)
  rw [List.eq_nil_of_length_eq_zero (Dg.sealPath_len offB 0 0 (by decide))] at h
  exact h
theorem sigB_small (s : ByteArray) (i : Nat) (m : ByteArray) (x : ByteArray) (hx : x ∈ Dg.sigB s i m) : x.size ≤ 1048576 := by rw [isB_16 (Dg.sigB_isB s i m) x hx]; decide
end Go.Proofs.YtobhpeockinnjaaGreatDoor

