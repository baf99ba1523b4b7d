/- pop, next and done of package tree: a proof that is used up from its end. -/
import Derived.Test.YtmmpndijfbbnnaaDoorProper
import Derived.StillTailTactics
import Derived.Deep.RegionWith
namespace Go.Proofs.YtmmpndijfbbnnaaDoor
open Go Go.RowKit Go.Sort
theorem und_dig : Tryd.prog.underlying 65 = some (.slice (Tryd.prog.elem 65)) := by rw [show Tryd.prog.elem 65 = 9 by kernel_rfl]; exact Tryd.underlying65
theorem slice_toD (A : Option Addr) (n c k : Nat) (h : k ≤ c) (w : World) : (Instr.slice 65 (.slice A n c) none (some (.int .i64 (k : Int))) none).run Tryd.prog w = .ok (.slice A k c) w := by
  rw [run_slice_h w _ A n c und_dig .i64 k (by omega) (by omega), show Tryd.prog.elem 65 = 9 by kernel_rfl, Tryd.sizeOf9]
  show Result.ok (sliced A 0 (k : Int).toNat c 1) w = _
  unfold sliced
  rw [Int.toNat_natCast, Nat.zero_mul, Nat.sub_zero, Nat.sub_zero]
  have : (if c = 0 then A else A.map (fun x => x.add 0)) = A := by
    split
    · rfl
    · cases A with
      | none => rfl
      | some a => rw [Option.map_some, addr_add0]
  rw [this]
set_option maxHeartbeats 400000 in
theorem pop_zero (bl : Nat) (A : Option Addr) (c : Nat) (w : World) (hc : w.cell? ⟨bl, 0, none⟩ = some (.slice A 0 c)) :
    Calls Tryd.prog 88 #[.pointer (some ⟨bl, 0, none⟩)] w fun e w' => e = .returned (.string ⟨#[]⟩) ∧ w = w' := by
  go_enter Tryd.func88, Tryd.ntmps88
  go_wp2
  go_ret
  exact ⟨rfl, rfl⟩
set_option maxHeartbeats 1000000 in
theorem pop_more (bl : Nat) (b off c j : Nat) (d : ByteArray) (w : World) (hj : j ≤ 1099511627776) (hjc : j ≤ c) (hc : w.cell? ⟨bl, 0, none⟩ = some (.slice (some ⟨b, off, none⟩) (j + 1) c)) (hf : w.frozen? ⟨bl, 0, none⟩ = false) (hd : w.cell? ⟨b, off + j, none⟩ = some (.string d)) :
    Calls Tryd.prog 88 #[.pointer (some ⟨bl, 0, none⟩)] w fun e w' => e = .returned (.string d) ∧ ∃ q, w' = (w.setCell ⟨bl, 0, none⟩ (.slice (some ⟨b, off, none⟩) j c)).drewN q := by
  have s1 := slice_toD (some ⟨b, off, none⟩) (j + 1) c j hjc
  go_enter Tryd.func88, Tryd.ntmps88
  go_wp2_with fail
  go_quiet (fail)
  go_wp2_with fail
  generalize hW : w.drewN nq = W at *
  have hc' : W.cell? ⟨bl, 0, none⟩ = some (.slice (some ⟨b, off, none⟩) (j + 1) c) := by rw [← hW]; exact hc
  have hf' : W.frozen? ⟨bl, 0, none⟩ = false := by rw [← hW]; exact hf
  have HW := hide hW; clear hW hc hf hd
  go_region
  all_goals go_wp2_with fail
  all_goals go_ret
  all_goals exact ⟨rfl, nq + 1, by rw [← HW.out]; rfl⟩
/-- The cells of a proof that is under way: l lies at block bl, the proof at block bp. -/
structure PSt (w : World) (bl bp : Nat) (A : Option Addr) (c n : Nat) (sh : Bool) : Prop where
  l : w.cell? ⟨bl, 0, none⟩ = some (.slice A n c)
  lf : w.frozen? ⟨bl, 0, none⟩ = false
  p0 : w.cell? ⟨bp, 0, none⟩ = some (.pointer (some ⟨bl, 0, none⟩))
  p1 : w.cell? ⟨bp, 1, none⟩ = some (.bool sh)
  pf : w.frozen? ⟨bp, 1, none⟩ = false
theorem PSt.below {w w' : World} {bl bp : Nat} {A : Option Addr} {c n : Nat} {sh : Bool} (h : PSt w bl bp A c n sh) (hl : bl < w.heap.size) (hp : bp < w.heap.size) (hb : Below w.heap.size w w') : PSt w' bl bp A c n sh :=
  ⟨(hb.cell (p := ⟨bl, 0, none⟩) hl).trans h.l, (hb.frozen (p := ⟨bl, 0, none⟩) hl).trans h.lf, (hb.cell (p := ⟨bp, 0, none⟩) hp).trans h.p0, (hb.cell (p := ⟨bp, 1, none⟩) hp).trans h.p1, (hb.frozen (p := ⟨bp, 1, none⟩) hp).trans h.pf⟩
theorem cell_other {w : World} {b b' o o' : Nat} (v : Value) (h : b ≠ b' ∨ o ≠ o') : (w.setCell ⟨b, o, none⟩ v).cell? ⟨b', o', none⟩ = w.cell? ⟨b', o', none⟩ := by
  refine World.cell?_setCell_other _ _ _ _ ?_
  rintro e
  injection e with h1 h2
  omega
theorem PSt.setL {w : World} {bl bp : Nat} {A : Option Addr} {c n : Nat} {sh : Bool} (h : PSt w bl bp A c n sh) (hne : bl ≠ bp) (m : Nat) (q : Nat) : PSt ((w.setCell ⟨bl, 0, none⟩ (.slice A m c)).drewN q) bl bp A c m sh :=
  ⟨World.cell?_setCell_same' _ _ _ (by rw [h.l]; rfl), (World.frozen?_setCell _ _ _ _).trans h.lf, (cell_other _ (Or.inl hne)).trans h.p0, (cell_other _ (Or.inl hne)).trans h.p1, (World.frozen?_setCell _ _ _ _).trans h.pf⟩
theorem PSt.setP {w : World} {bl bp : Nat} {A : Option Addr} {c n : Nat} {sh : Bool} (h : PSt w bl bp A c n sh) (hne : bl ≠ bp) (s : Bool) : PSt (w.setCell ⟨bp, 1, none⟩ (.bool s)) bl bp A c n s :=
  ⟨(cell_other _ (Or.inl (Ne.symm hne))).trans h.l, (World.frozen?_setCell _ _ _ _).trans h.lf, (cell_other _ (Or.inr (by decide))).trans h.p0, World.cell?_setCell_same' _ _ _ (by rw [h.p1]; rfl), (World.frozen?_setCell _ _ _ _).trans h.pf⟩
/-- Blocks bl and bp alone have been written. -/
structure Mut (bl bp : Nat) (w w' : World) : Prop where
  os : w'.os = w.os
  tape : w'.tape = w.tape
  output : w'.output = w.output
  size : w.heap.size ≤ w'.heap.size
  block : ∀ k, k < w.heap.size → k ≠ bl → k ≠ bp → w'.heap[k]? = w.heap[k]?
theorem Mut.refl (bl bp : Nat) (w : World) : Mut bl bp w w := ⟨rfl, rfl, rfl, Nat.le_refl _, fun _ _ _ _ => rfl⟩
theorem Mut.trans {bl bp : Nat} {a b c : World} (h : Mut bl bp a b) (k : Mut bl bp b c) : Mut bl bp a c :=
  ⟨k.os.trans h.os, k.tape.trans h.tape, k.output.trans h.output, Nat.le_trans h.size k.size, fun i hi h1 h2 => (k.block i (Nat.lt_of_lt_of_le hi h.size) h1 h2).trans (h.block i hi h1 h2)⟩
theorem Mut.below {bl bp : Nat} {a b : World} (h : Below a.heap.size a b) : Mut bl bp a b := ⟨h.os, h.tape, h.output, h.size, fun i hi _ _ => h.block i hi⟩
theorem Mut.next {bl bp : Nat} {a b c : World} (h : Mut bl bp a b) (k : Below b.heap.size b c) : Mut bl bp a c := h.trans (Mut.below k)
theorem Mut.setCell {bl bp : Nat} {a b : World} (h : Mut bl bp a b) (q : Addr) (hq : q.block = bl ∨ q.block = bp) (v : Value) : Mut bl bp a (b.setCell q v) :=
  h.trans ⟨rfl, rfl, rfl, by simp [World.setCell], fun k _ h1 h2 => Below.heap_setCell _ _ _ _ (by rintro rfl; rcases hq with e | e; exact h1 e; exact h2 e)⟩
theorem Mut.drewN {bl bp : Nat} {a b : World} (h : Mut bl bp a b) (q : Nat) : Mut bl bp a (b.drewN q) := ⟨h.os, h.tape, h.output, h.size, h.block⟩
theorem Mut.toBelow {bl bp B : Nat} {a b : World} (h : Mut bl bp a b) (h1 : B ≤ bl) (h2 : B ≤ bp) (h3 : B ≤ a.heap.size) : Below B a b := ⟨h.os, h.tape, h.output, h.size, fun k hk => h.block k (by omega) (by omega) (by omega)⟩
theorem Mut.cell {bl bp : Nat} {a b : World} (h : Mut bl bp a b) {p : Addr} (hp : p.block < a.heap.size) (h1 : p.block ≠ bl) (h2 : p.block ≠ bp) : b.cell? p = a.cell? p := World.cell?_of_block (w := a) (h.block p.block hp h1 h2)
theorem emp_ne {d : ByteArray} (h : d.size = 16) : (d.toList == ([] : List UInt8)) = false := by
  have : d ≠ ⟨#[]⟩ := fun e => by rw [e] at h; exact absurd h (by decide)
  have h2 := tl_false (b := ⟨#[]⟩) this
  rwa [show (⟨#[]⟩ : ByteArray).toList = [] by kernel_rfl] at h2
set_option maxHeartbeats 400000 in
theorem next_zero (bl bp : Nat) (A : Option Addr) (c : Nat) (sh : Bool) (w : World) (h : PSt w bl bp A c 0 sh) (hne : bl ≠ bp) :
    Calls Tryd.prog 57 #[.pointer (some ⟨bp, 0, none⟩)] w fun e w' => e = .returned (.string ⟨#[]⟩) ∧ PSt w' bl bp A c 0 true ∧ Mut bl bp w w' := by
  have H := hide h
  obtain ⟨h1, h2, h3, h4, h5⟩ := h
  go_enter Tryd.func57, Tryd.ntmps57
  go_wp2_with fail
  refine (pop_zero bl A c w h1).mono ?_
  rintro e w1 ⟨rfl, rfl⟩
  cases sh with
  | true =>
    go_wp2
    go_ret
    exact ⟨rfl, H.out.setP hne true, (Mut.refl _ _ _).setCell ⟨bp, 1, none⟩ (Or.inr rfl) _⟩
  | false =>
    go_wp2
    go_ret
    exact ⟨rfl, H.out.setP hne true, (Mut.refl _ _ _).setCell ⟨bp, 1, none⟩ (Or.inr rfl) _⟩
set_option maxHeartbeats 400000 in
theorem next_more (bl bp b off c j : Nat) (sh : Bool) (d : ByteArray) (w : World) (h : PSt w bl bp (some ⟨b, off, none⟩) c (j + 1) sh) (hne : bl ≠ bp) (hj : j ≤ 1099511627776) (hjc : j ≤ c) (hd : w.cell? ⟨b, off + j, none⟩ = some (.string d)) (hz : d.size = 16) :
    Calls Tryd.prog 57 #[.pointer (some ⟨bp, 0, none⟩)] w fun e w' => e = .returned (.string d) ∧ PSt w' bl bp (some ⟨b, off, none⟩) c j sh ∧ Mut bl bp w w' := by
  have H := hide h
  have HE := emp_ne hz
  obtain ⟨h1, h2, h3, h4, h5⟩ := h
  go_enter Tryd.func57, Tryd.ntmps57
  go_wp2_with fail
  refine (pop_more bl b off c j d w hj hjc h1 h2 hd).mono ?_
  rintro e w1 ⟨rfl, q, rfl⟩
  have hb : Mut bl bp w ((w.setCell ⟨bl, 0, none⟩ (.slice (some ⟨b, off, none⟩) j c)).drewN q) := ((Mut.refl _ _ _).setCell ⟨bl, 0, none⟩ (Or.inl rfl) _).drewN q
  have H1 := H.out.setL hne j q
  generalize (w.setCell ⟨bl, 0, none⟩ (.slice (some ⟨b, off, none⟩) j c)).drewN q = w1 at *
  clear h1 h2 h3 h4 h5 hd H
  have H := hide H1
  obtain ⟨h1, h2, h3, h4, h5⟩ := H1
  cases sh with
  | true =>
    go_wp2
    go_ret
    exact ⟨rfl, H.out.setP hne true, hb.setCell ⟨bp, 1, none⟩ (Or.inr rfl) _⟩
  | false =>
    go_wp2
    go_ret
    exact ⟨rfl, H.out.setP hne false, hb.setCell ⟨bp, 1, none⟩ (Or.inr rfl) _⟩
theorem next_any (bl bp : Nat) (A : Option Addr) (c k : Nat) (sh : Bool) (p : List ByteArray) (B : Nat) (D : ByteArray) (K : Nat) (S : Bool) (hD : (p.take k).reverse.headD ⟨#[]⟩ = D) (hK : k - 1 = K) (hS : (sh || decide (k = 0)) = S) (w : World) (h : PSt w bl bp A c k sh) (hne : bl ≠ bp)
    (hk : k ≤ p.length) (hpc : p.length ≤ c) (hp : p.length ≤ 1048576) (hz : ∀ s ∈ p, s.size = 16) (hSt : Strs w B A p) :
    Calls Tryd.prog 57 #[.pointer (some ⟨bp, 0, none⟩)] w fun e w' => e = .returned (.string D) ∧ PSt w' bl bp A c K S ∧ Mut bl bp w w' := by
  subst hD hK hS
  cases k with
  | zero =>
    refine (next_zero bl bp A c sh w h hne).mono ?_
    rintro e w' ⟨rfl, h1, h2⟩
    refine ⟨rfl, ?_, h2⟩
    simpa using h1
  | succ j =>
    obtain ⟨b, off, rfl, _, hcell⟩ := hSt.get (k := j) (by omega)
    refine (next_more bl bp b off c j sh p[j] w h hne (by omega) (by omega) hcell (hz _ (List.getElem_mem _))).mono ?_
    rintro e w' ⟨rfl, h1, h2⟩
    refine ⟨ret_str ?_, ?_, h2⟩
    · rw [List.take_succ_eq_append_getElem (by omega), List.reverse_append]; rfl
    · simpa using h1
set_option maxHeartbeats 400000 in
theorem done_any (bl bp : Nat) (A : Option Addr) (c n : Nat) (sh : Bool) (R : Bool) (w : World) (h : PSt w bl bp A c n sh) (_hn : n ≤ 1099511627776) (hR : (!sh && decide (n = 0)) = R) :
    Calls Tryd.prog 58 #[.pointer (some ⟨bp, 0, none⟩)] w fun e w' => e = .returned (.bool R) ∧ w = w' := by
  subst hR
  obtain ⟨h1, h2, h3, h4, h5⟩ := h
  go_enter Tryd.func58, Tryd.ntmps58
  cases sh with
  | true =>
    go_wp2
    go_ret
    exact ⟨rfl, rfl⟩
  | false =>
    go_wp2
    go_ret
    refine ⟨ret_bool ?_, rfl⟩
    simp only [Bool.not_false, Bool.true_and]
    rw [Bool.eq_iff_iff]
    simp only [beq_iff_eq, decide_eq_true_eq]
    omega
end Go.Proofs.YtmmpndijfbbnnaaDoor
