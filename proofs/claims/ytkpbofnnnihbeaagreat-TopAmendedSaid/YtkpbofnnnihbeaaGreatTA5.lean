/- Walks and laws of this seat, several texts in one. No conditions but those that each theorem states. -/
import Derived.Test.YtkpbofnnnihbeaaGreatTA4
import Derived.ArgAppend
import Derived.WideKeyArr
import Derived.RangeFuncSeq
import Derived.RangeFuncBox
import Derived.RangeFuncKeeps
import Derived.WalkKit
import Derived.OwnWalkIn
import Derived.TacticsInMore
import Derived.RegionIn
import Derived.LoopNIn
import Derived.LoopIn
import Derived.RangeFuncCalls
import Derived.RangeFuncWrites
import Derived.Test.YtkpbofnnnihbeaaGreatShelg
set_option maxRecDepth 100000
set_option maxHeartbeats 16000000
set_option linter.unusedSimpArgs false
set_option linter.unusedVariables false
namespace Go.Proofs.YtkpbofnnnihbeaaGreat
open Go Go.RowKit Go.Sort Go.Maps Rw Tryz
theorem store_one {ty T : TypeId} (W : World) (g : Nat) (hg : W.heap.size = g) (u v : Value) (hv : v.cells = #[v]) (hi : (Tryz.prog.info? ty).map (·.size) = some 1) (h1 : v.oneCell' = true) :
  (Instr.storeAt ty (.pointer (some ⟨g, 0, none⟩)) v).run Tryz.prog (W.alloc (.cells #[u] T)) = .ok () (W.alloc (.cells #[v] T)) := by
 subst hg
 have h := store_part (ty := ty) (T := T) (W.alloc (.cells #[u] T)) W.heap.size 0 #[u] v #[v] (heap_alloc_new W _) (by rw [hv]; exact hi) (by rw [hv]; exact Nat.le_refl 1) (by
  rw [hv]
  intro x hx
  obtain rfl : x = v := by simpa using hx
  exact h1) (by rw [hv]; rfl)
 rw [setRow_alloc] at h
 exact h
theorem RngI.obj {w : World} {m r : Nat} {pg V : List Dg.Cl} (h : RngI w m r pg V) : ∃ o, w.heap[r]? = some o ∧ (∀ cs T fr, o ≠ .cells cs T fr) ∧ ∀ es k, o ≠ .map es k := by
 obtain ⟨D, left, cnt, ⟨es, clock, since, seen, c0, hb, F, hs, hD, hr, rest⟩, h2⟩ := h
 exact ⟨_, hr, (fun _ _ _ e => by cases e), (fun _ _ e => by cases e)⟩
structure LsI (w : World) (B m r mb cb : Nat) (pg V : List Dg.Cl) (X : World) : Prop where
 rng : RngI X m r pg V
 kid : KidAt X mb B V
 rC : X.heap[cb]? = some (.cells #[.map (some mb)] 137 (0, 0))
 up : Below B w X
theorem LsI.lens {w : World} {B m r mb cb : Nat} {pg V : List Dg.Cl} {X : World} (h : LsI w B m r mb cb pg V X) : V.length ≤ pg.length := by
 obtain ⟨_, _, _, _, _, _, hV, hn⟩ := h.rng
 exact Dg.nodup_len2 V pg hn hV
theorem LsI.next {w : World} {B m r mb cb : Nat} {pg V : List Dg.Cl} {X Y : World} (h : LsI w B m r mb cb pg V X) (hg : X.grownBy Y (some r)) (hB : B ≤ r) : KidAt Y mb B V ∧ Y.heap[cb]? = some (.cells #[.map (some mb)] 137 (0, 0)) ∧ Below B w Y := by
 obtain ⟨o, ho, h1, h2⟩ := h.rng.obj
 obtain ⟨es, clock, hm, _⟩ := h.kid
 have hmr : some mb ≠ some r := fun e => by
  injection e with e
  rw [e, ho] at hm
  injection hm with hm
  exact h2 _ _ hm
 have hcr : some cb ≠ some r := fun e => by
  injection e with e
  have := h.rC
  rw [e, ho] at this
  injection this with this
  exact h1 _ _ _ this
 exact ⟨h.kid.kept hg hmr (h.kid.tag ho (fun cs fr => h1 cs _ fr)), (hg.block cb (lt_of_block h.rC) hcr).trans h.rC, h.up.grown hg (Nat.le_of_lt (Nat.lt_of_le_of_lt hB h.rng.lt.1)) (fun k hk => by injection hk with hk; omega)⟩
attribute [-go_sem] Instr.storeAt in
theorem pageList_of (p m : Nat) (pg : List Dg.Cl) (hok : ∀ c ∈ pg, Dg.clOk c = true) (hpl : pg.length ≤ 100000) (w : World) (h : PageAt w p m pg) :
  Calls Tryz.prog 32 #[.pointer (some ⟨p, 0, none⟩)] w fun e w' => (∃ v, e = .returned v ∧ Own1 clL 55 w' w.heap.size v (Dg.listC pg)) ∧ Below w.heap.size w w' := by
 have hnd : Dg.NdC pg := by
  obtain ⟨D, _, hD⟩ := h.map
  exact hD.nd
 have hmm := @run_makeMap Tryz.prog
 have HP := hide h; have HOK := hide hok; have HND := hide hnd
 clear h hok hnd
 have c0 := iCells0 HP.out.row
 have hst := store_one (ty := 137) (T := 137) (w.alloc (.map #[] 0)) (w.heap.size + 1) (by simp) (.map none) (.map (some w.heap.size)) rfl (by kernel_rfl) rfl
 go_enter func32, ntmps32
 go_upto_region 4 with fail
 clear hst c0
 have hb1 : Below w.heap.size w ((w.alloc (.map #[] 0)).alloc (.cells #[.map (some w.heap.size)] 137)) := ((Below.refl w.heap.size w).alloc (Nat.le_refl _) _).alloc (by simp) _
 have hk1 : KidAt ((w.alloc (.map #[] 0)).alloc (.cells #[.map (some w.heap.size)] 137)) w.heap.size w.heap.size [] := (KidAt.nil w w.heap.size).below (Below.news (Below.refl _ _) _)
 have r3 : ((w.alloc (.map #[] 0)).alloc (.cells #[.map (some w.heap.size)] 137)).heap[w.heap.size + 1]? = some (.cells #[.map (some w.heap.size)] 137 (0, 0)) := by
  have := heap_alloc_new (w.alloc (.map #[] 0)) (.cells #[.map (some w.heap.size)] 137)
  rw [show (w.alloc (.map #[] 0)).heap.size = w.heap.size + 1 by simp] at this
  exact this
 have hsz1 : ((w.alloc (.map #[] 0)).alloc (.cells #[.map (some w.heap.size)] 137)).heap.size = w.heap.size + 2 := by simp
 have HSZ1 := hide hsz1; have HB1 := hide hb1; have HK1 := hide hk1; have HR3 := hide r3
 have HP1 := hide (HP.out.below hb1)
 have hml : m < w.heap.size := HP.out.map.lt
 clear hsz1 hb1 hk1 r3
 generalize (w.alloc (.map #[] 0)).alloc (.cells #[.map (some w.heap.size)] 137) = W1 at *
 have c1 := iCells0 HP1.out.row
 go_wp2_with (at_range; refine range_page _ rfl _ rfl m pg rfl HP1.out.map ?_; intro w0 hR0 hg0 hs0)
 go_frame
 have hrl := hR0.lt.1
 have hW1 : W1.heap.size ≤ w0.heap.size := hg0.size
 have hmb : w.heap.size < W1.heap.size := by have := HSZ1.out; omega
 have hI0 : LsI w w.heap.size m W1.heap.size w.heap.size (w.heap.size + 1) pg [] w0 := ⟨hR0, HK1.out.kept hg0 (by simp) (KidOff.none _ _), (hg0.block _ (lt_of_block HR3.out) (by simp)).trans HR3.out, HB1.out.grown hg0 (Nat.le_of_lt hmb) (fun k hk => by cases hk)⟩
 have HI0 := hide hI0
 generalize hcb : w.heap.size + 1 = cb at *
 generalize hr : W1.heap.size = r at *
 have HCB := hide hcb; have HR := hide hr
 clear hcb hr hg0 hs0 hI0 hR0 hW1 c1 HB1 HSZ1 HK1 HR3 HP1
 go_loopw [16] (fun _ wr => ∃ V : List Dg.Cl, Hid (LsI w w.heap.size m r w.heap.size cb pg V wr)) (fun _ wr => wr.rangeLeft m r)
 case atStart => exact ⟨[], HI0⟩
 case round =>
  clear HI0
  obtain ⟨V, HI⟩ := hrel
  go_wp2_with (at_next; refine next_page _ rfl _ rfl m r pg V rfl HI.out.rng ?_ ?_)
  ·intro hp
   have hst := store_one (ty := 138) (T := 138) (wr.alloc (.cells Rq3 30)) (wr.heap.size + 1) (by simp) .nilFunc (.func (.func 56) #[] #[.pointer (some ⟨cb, 0, none⟩), .pointer (some ⟨wr.heap.size, 0, none⟩), .pointer (some ⟨wr.heap.size + 1, 0, none⟩)]) rfl (by kernel_rfl) rfl
   have HPM := hide hp
   clear hp
   go_upto_region 11 with fail
   clear hst
   have hbz : Below wr.heap.size wr ((wr.alloc (.cells Rq3 30)).alloc (.cells #[.func (.func 56) #[] #[.pointer (some ⟨cb, 0, none⟩), .pointer (some ⟨wr.heap.size, 0, none⟩), .pointer (some ⟨wr.heap.size + 1, 0, none⟩)]] 138)) := ((Below.refl wr.heap.size wr).alloc (Nat.le_refl _) _).alloc (by simp) _
   have hB0 : w.heap.size ≤ wr.heap.size := HI.out.up.size
   have ho1 : ((wr.alloc (.cells Rq3 30)).alloc (.cells #[.func (.func 56) #[] #[.pointer (some ⟨cb, 0, none⟩), .pointer (some ⟨wr.heap.size, 0, none⟩), .pointer (some ⟨wr.heap.size + 1, 0, none⟩)]] 138)).heap[wr.heap.size]? = some (.cells Rq3 30 (0, 0)) := iNext (heap_alloc_new wr _) (Below.news (Below.refl _ _) _)
   have ho2 : ((wr.alloc (.cells Rq3 30)).alloc (.cells #[.func (.func 56) #[] #[.pointer (some ⟨cb, 0, none⟩), .pointer (some ⟨wr.heap.size, 0, none⟩), .pointer (some ⟨wr.heap.size + 1, 0, none⟩)]] 138)).heap[wr.heap.size + 1]? = some (.cells #[.func (.func 56) #[] #[.pointer (some ⟨cb, 0, none⟩), .pointer (some ⟨wr.heap.size, 0, none⟩), .pointer (some ⟨wr.heap.size + 1, 0, none⟩)]] 138 (0, 0)) := by
    have := heap_alloc_new (wr.alloc (.cells Rq3 30)) (.cells #[.func (.func 56) #[] #[.pointer (some ⟨cb, 0, none⟩), .pointer (some ⟨wr.heap.size, 0, none⟩), .pointer (some ⟨wr.heap.size + 1, 0, none⟩)]] 138)
    rw [show (wr.alloc (.cells Rq3 30)).heap.size = wr.heap.size + 1 by simp] at this
    exact this
   have hS : LsS w.heap.size w.heap.size cb wr.heap.size (wr.heap.size + 1) V (.slice none 0 0) [] ((wr.alloc (.cells Rq3 30)).alloc (.cells #[.func (.func 56) #[] #[.pointer (some ⟨cb, 0, none⟩), .pointer (some ⟨wr.heap.size, 0, none⟩), .pointer (some ⟨wr.heap.size + 1, 0, none⟩)]] 138)) := ⟨HI.out.kid.below hbz, iNext HI.out.rC hbz, ho1, ho2, Own1.nil _ _ _ _, KidOff.none _ _, hB0⟩
   have kf := iCells0 ho2
   have HS := hide hS; have HBZ := hide (HI.out.up.trans (hbz.mono hB0))
   clear hbz ho1 ho2 hS
   generalize ((wr.alloc (.cells Rq3 30)).alloc (.cells #[.func (.func 56) #[] #[.pointer (some ⟨cb, 0, none⟩), .pointer (some ⟨wr.heap.size, 0, none⟩), .pointer (some ⟨wr.heap.size + 1, 0, none⟩)]] 138)) = Wz at *
   generalize wr.heap.size + 1 = kb at *
   generalize wr.heap.size = ob at *
   go_wp2_with fail
   have hlen : ([] : List Dg.Cl).length + (Dg.walkC pg 1000001 Dg.Sp0).length ≤ 100000 := by
    have h1 := Dg.listC_len HND.out HOK.out
    unfold Dg.listC at h1
    rw [List.length_nil]
    omega
   refine (walk_all w.heap.size w.heap.size cb ob kb pg V HPM.out HND.out HOK.out hpl 1000001 Dg.Sp0 sp0_w (by decide) _ [] Wz hlen HS.out).mono ?_
   rintro e Y ⟨rfl, vo', hS2, hF2, _⟩
   have c6 := iCells0 hS2.rO
   have HO := hide hS2.own; have HBY := hide (HBZ.out.trans hF2.below)
   clear hS2 hF2 kf hlen
   go_wp2
   go_ret
   exact ⟨⟨_, rfl, HO.out⟩, HBY.out⟩
  ·intro c w1 hc hcV hR1 hlt1 hg1 hs1 hen
   have hBr : w.heap.size ≤ r := by have := HR.out; omega
   obtain ⟨hK1, hC1, hU1⟩ := HI.out.next hg1 hBr
   have hVl := HI.out.lens
   have hst := store_newcl w1 c
   have r5 := heap_alloc_new w1 (.cells (clC c) 55)
   have hb1 := nwB w1 (.cells (clC c) 55)
   have hrl1 := hR1.lt.1
   have hmb1 := hR1.map.lt
   have hK2 := hK1.below hb1
   have hC2 := iNext hC1 hb1
   have hU2 := hU1.trans (hb1.mono hU1.size)
   have e1 : (w1.alloc (.cells (clC c) 55)).heap[m]? = w1.heap[m]? := hb1.block m hmb1
   have e2 : (w1.alloc (.cells (clC c) 55)).heap[r]? = w1.heap[r]? := hb1.block r hrl1
   have hR2 := hR1.same e1 e2
   have hlt2 : (w1.alloc (.cells (clC c) 55)).rangeLeft m r < wr.rangeLeft m r := by rw [rangeLeft_same e1 e2]; exact hlt1
   have hsz2 : (w1.alloc (.cells (clC c) 55)).heap.size = w1.heap.size + 1 := by simp
   have HK2 := hide hK2; have HC2 := hide hC2; have HU2 := hide hU2; have HR2 := hide hR2; have HLT := hide hlt2; have HR5 := hide r5; have HSZ := hide hsz2; have HC := hide hc; have HVL := hide hVl; have HS1 := hide hs1
   clear hK1 hC1 hU1 hK2 hC2 hU2 hR1 hR2 hlt1 hlt2 hg1 hs1 r5 hb1 hrl1 hmb1 e1 e2 hsz2 hcV hc hVl
   go_upto_region 7 with fail
   clear hst hen
   generalize w1.alloc (.cells (clC c) 55) = X2 at *
   have hrg := range_of HR5.out 0 (clC c).toList rfl
   have c0 := iCells0 HC2.out
   have k2 : X2.cell? ⟨w1.heap.size, 2, none⟩ = some (.int .i64 c.after.seat) := cell_of_row _ _ 2 _ _ _ HR5.out
   have k3 : X2.cell? ⟨w1.heap.size, 3, none⟩ = some (.int .i64 c.after.count) := cell_of_row _ _ 3 _ _ _ HR5.out
   have hbn := nwB X2 (.cells (clC c) 55)
   have rn := heap_alloc_new X2 (.cells (clC c) 55)
   have hK3 := HK2.out.below hbn
   have hU3 := HU2.out.trans (hbn.mono HU2.out.size)
   have hR3 := HR2.out.same (hbn.block m HR2.out.map.lt) (hbn.block r HR2.out.lt.1)
   have hC3 := iNext HC2.out hbn
   have hl3 : (X2.alloc (.cells (clC c) 55)).rangeLeft m r < wr.rangeLeft m r := by rw [rangeLeft_same (hbn.block m HR2.out.map.lt) (hbn.block r HR2.out.lt.1)]; exact HLT.out
   obtain ⟨v0, st, w4, l, hrun, hg4, hs4, hp4, hown4, hcont⟩ := hK3.entry (c := c) (Nat.le_trans HVL.out hpl) (after_w (HOK.out c HC.out))
   obtain ⟨A0, cap0, hv0, _, _⟩ := hown4.row
   obtain ⟨n0, hn0⟩ : ∃ n0, l.length = n0 := ⟨_, rfl⟩
   rw [hn0] at hv0
   subst hv0
   have hnl : n0 ≤ 100000 := by
    have h1 := hp4.length_eq
    have h2 : (aftL V c.after).length ≤ V.length := List.length_filter_le _ _
    have h3 := HVL.out
    omega
   have hmbX : w.heap.size < X2.heap.size := HK2.out.lt
   have rn4 : w4.heap[X2.heap.size]? = some (.cells (clC c) 55 (0, 0)) := (hg4.block X2.heap.size (lt_of_block rn) (fun e => by injection e with e; omega)).trans rn
   have rb : Row1 clL w4 (X2.heap.size + 1) (some ⟨X2.heap.size, 0, none⟩) [c] := ⟨fun _ => ⟨X2.heap.size, 0, rfl, by omega, fun j u hu => by
    rw [Nat.zero_add, cell_of_row _ _ _ _ _ _ rn4, ← Array.getElem?_toList]
    rw [clL.flat_cons, clL.flat_nil, List.append_nil] at hu
    exact hu⟩⟩
   have hB4 : w.heap.size ≤ w4.heap.size := by rw [hs4]; exact hU3.size
   have HRG := hide hrg; have HRB := hide rb; have HO4 := hide hown4; have HCONT := hide hcont; have HN0 := hide hn0; have HG4 := hide hg4; have HU3 := hide hU3; have HR3 := hide hR3; have HC3 := hide hC3; have HL3 := hide hl3; have HK3 := hide hK3; have HS4 := hide hs4
   have hcz : (clC c).size = 20 := rfl
   have hfc := fold_cl c
   clear hrg rb hown4 hcont hn0 hg4 hU3 hR3 hC3 hl3 hK3 hs4 rn rn4 hbn hp4
   go_wp2_with (first | (with_reducible refine wpList_load_mid rfl 55 (.tmp 5) rfl w1.heap.size 0 rfl _ _ HRG.out underlying55 rfl (by kernel_rfl) ?_) | (at_builtin; go_loud (refine step_app1 (L := clL) rfl (.tmp 23) (.tmp 25) 30 55 _ 248 rfl underlying30 clauseInfo rfl (by decide) w.heap.size (X2.heap.size + 1) _ l [c] rfl HO4.out (some ⟨X2.heap.size, 0, none⟩) 1 1 rfl rfl HRB.out (by have := HN0.out; omega) (by decide) hB4 ?_)))
   intro v5 w5 h1 h2 h3 h4
   obtain ⟨w6, hrun6, hK6, hg6⟩ := HCONT.out w5 v5 h3 h1 (h4.elim .inl fun e => .inr ⟨_, e, Nat.le_refl _⟩)
   clear hrun c0 k2 k3 hcz hfc
   unfold goInt at hrun6
   have hrN := HR.out
   have hcN := HCB.out
   have hmS : m < (X2.alloc (.cells (clC c) 55)).heap.size := HR3.out.map.lt
   have hrS : r < (X2.alloc (.cells (clC c) 55)).heap.size := HR3.out.lt.1
   have hcS : cb < (X2.alloc (.cells (clC c) 55)).heap.size := lt_of_block HC3.out
   have hz4 := HS4.out
   have m4 : w4.heap[m]? = _ := HG4.out.block m hmS (fun e => by injection e with e; omega)
   have r4 : w4.heap[r]? = _ := HG4.out.block r hrS (fun e => by injection e with e; omega)
   have c4 : w4.heap[cb]? = _ := HG4.out.block cb hcS (fun e => by injection e with e; omega)
   have hR4 := HR3.out.same m4 r4
   have hC4 := c4.trans HC3.out
   obtain ⟨o4, ho4, t4, _⟩ := hR4.obj
   have m5 : w5.heap[m]? = _ := h3.block m (by omega) (fun e => by have := (World.ownsRow.lt HO4.out m e.symm).1; omega)
   have r5 : w5.heap[r]? = _ := h3.block r (by omega) (fun e => own_tag HO4.out ho4 (fun cs fr => t4 cs _ fr) e.symm)
   have c5 : w5.heap[cb]? = _ := h3.block cb (by omega) (fun e => own_tag HO4.out hC4 (fun _ _ e => by injection e with _ e _; exact absurd e (by decide)) e.symm)
   have hs5 := h3.size
   have m6 : w6.heap[m]? = _ := hg6.block m (by omega) (fun e => by injection e with e; omega)
   have r6 : w6.heap[r]? = _ := hg6.block r (by omega) (fun e => by injection e with e; omega)
   have c6 : w6.heap[cb]? = _ := hg6.block cb (by omega) (fun e => by injection e with e; omega)
   have hU4 : Below w.heap.size w w4 := HU3.out.grown HG4.out HU3.out.size (fun k hk => by injection hk with hk; omega)
   have HI6 := hide (⟨(hR4.same m5 r5).same m6 r6, hK6, c6.trans (c5.trans hC4), (hU4.trans h2).grown hg6 (hU4.trans h2).size (fun k hk => by injection hk with hk; omega)⟩ : LsI w w.heap.size m r w.heap.size cb pg (V ++ [c]) w6)
   have hl6 : w6.rangeLeft m r < wr.rangeLeft m r := by rw [rangeLeft_same m6 r6, rangeLeft_same m5 r5, rangeLeft_same m4 r4]; exact HL3.out
   have HL6 := hide hl6
   clear hrN hcN hmS hrS hcS hz4 m4 r4 c4 hR4 hC4 ho4 t4 m5 r5 c5 hs5 m6 r6 c6 hU4 hK6 hg6 h1 h2 h3 h4 hl6
   go_wp2_with fail
   exact ⟨⟨V ++ [c], HI6⟩, HL6.out⟩
def SlRow (X : World) (v : Value) (vs : List Value) : Prop := (v = .slice none 0 0 ∧ vs = []) ∨ ∃ (g off cap : Nat) (cur : Array Value), v = .slice (some ⟨g, off, none⟩) vs.length cap ∧ X.heap[g]? = some (.cells cur 30 (0, 0)) ∧ vs.length ≤ cap ∧ cap ≤ maxLen ∧ off + cap ≤ cur.size ∧ (cur.toList.drop off).take vs.length = vs
theorem SlRow.nil (X : World) : SlRow X (.slice none 0 0) [] := .inl ⟨rfl, rfl⟩
theorem SlRow.kept {X Y : World} {v : Value} {vs : List Value} (h : SlRow X v vs) (hk : ∀ k, v.ownBlock = some k → Y.heap[k]? = X.heap[k]?) : SlRow Y v vs := by
 rcases h with h | ⟨g, off, cap, cur, rfl, hg, r⟩
 ·exact .inl h
 ·exact .inr ⟨g, off, cap, cur, rfl, (hk g rfl).trans hg, r⟩
theorem SlRow.lt {X : World} {v : Value} {vs : List Value} (h : SlRow X v vs) : ∀ k, v.ownBlock = some k → k < X.heap.size := fun k hk => by
 rcases h with ⟨rfl, _⟩ | ⟨g, off, cap, cur, rfl, hg, r⟩
 ·cases hk
 ·injection hk with hk
  rw [← hk]
  exact lt_of_block hg
theorem SlRow.tag {X : World} {v : Value} {vs : List Value} (h : SlRow X v vs) {k : Nat} {o : Obj} (hb : X.heap[k]? = some o) (ho : ∀ cs fr, o ≠ .cells cs 30 fr) : v.ownBlock ≠ some k := fun e => by
 rcases h with ⟨rfl, _⟩ | ⟨g, off, cap, cur, rfl, hg, r⟩
 ·cases e
 ·injection e with e
  have e : g = k := e
  rw [e, hb] at hg
  injection hg with hg
  exact ho _ _ hg
theorem SlRow.form {X : World} {v : Value} {vs : List Value} (h : SlRow X v vs) : ∃ A cap, v = .slice A vs.length cap := by
 rcases h with ⟨rfl, rfl⟩ | ⟨g, off, cap, cur, rfl, _⟩
 ·exact ⟨none, 0, rfl⟩
 ·exact ⟨_, cap, rfl⟩
theorem own_sl {X : World} {B : Nat} {v : Value} {n : Nat} {xs : List Value} (h : X.ownsRow B 30 1 v n xs) : SlRow X v xs := by
 have hn := h.1
 rw [Nat.mul_one] at hn
 rcases h.2 with ⟨rfl, h0⟩ | ⟨g, cap, cur, rfl, _, hg, hc, hm, hcs, htk⟩
 ·exact .inl ⟨rfl, List.eq_nil_of_length_eq_zero (by omega)⟩
 ·rw [Nat.mul_one] at hcs htk
  exact .inr ⟨g, 0, cap, cur, by rw [hn], hg, by omega, hm, by omega, by rw [List.drop_zero, hn]; exact htk⟩
theorem slInfo : (Tryz.prog.info? 30).map (fun i => (i.zero, i.size, i.bytes)) = some (some (.slice none 0 0), 1, 24) := by kernel_rfl
theorem sl_append {X : World} {v : Value} {vs : List Value} (h : SlRow X v vs) (hl : vs.length ≤ 1000000) (ty : TypeId) {S : Nat} {x : Value} (hx : X.cell? ⟨S, 0, none⟩ = some x) (h1 : x.oneCell' = true) (c : Nat) :
  ∃ v' X', (Builtin.append_ #[111, 111] ty #[v, .slice (some ⟨S, 0, none⟩) 1 c]).run Tryz.prog X = .ok v' X' ∧ SlRow X' v' (vs ++ [x]) ∧ X.grownBy X' v.ownBlock ∧ NewO X.heap.size v.ownBlock v'.ownBlock := by
 obtain ⟨i, i1, i2, i3, i4⟩ := info_parts slInfo
 have hu := underlying111
 have hnews : ∀ j u, ([x] : List Value)[j]? = some u → X.cell? ((⟨S, 0, none⟩ : Addr).add j) = some u := fun j u hj => by
  cases j with
  | zero =>
   obtain rfl : x = u := by simpa using hj
   have e : ((⟨S, 0, none⟩ : Addr).add 0) = ⟨S, 0, none⟩ := rfl
   rw [e]
   exact hx
  | succ j => simp at hj
 have hone : ∀ u ∈ ([x] : List Value), u.oneCell' = true := fun u hu => by rw [List.mem_singleton.1 hu]; exact h1
 rcases h with ⟨rfl, rfl⟩ | ⟨g, off, cap, cur, rfl, hg, hc, hm, hcs, htk⟩
 ·obtain ⟨v', w', hr, h5, h6, _, h7⟩ := run_append_own_at (P := Tryz.prog) X 0 111 ty 30 i (.slice none 0 0) 1 24 hu i1 i2 i3 i4 rfl (by decide) (.slice none 0 0) 0 [] (World.ownsRow_nil X 0 _ _) ⟨S, 0, none⟩ 1 c [x] rfl hnews hone (by decide) (by decide) (Nat.zero_le _)
  exact ⟨v', w', hr, own_sl h5, h6, h7.elim .inl fun e => .inr ⟨_, e, Nat.le_refl _⟩⟩
 ·by_cases hroom : vs.length + 1 ≤ cap
  ·have hfc := run_firstCells_some (P := Tryz.prog) X i.size 1 ⟨S, 0, none⟩ 1 c [x] (by rw [i3]; rfl) hnews
   rw [i3] at hfc
   have hst := run_storeCells_at Tryz.prog g (off + vs.length) 30 [x] 0 cur X hg (by simp only [List.length_singleton]; omega) hone
   rw [Nat.add_zero] at hst
   obtain ⟨cs, hcs2⟩ : ∃ cs, (List.take (off + vs.length) cur.toList ++ [x] ++ List.drop (off + vs.length + [x].length) cur.toList).toArray = cs := ⟨_, rfl⟩
   rw [hcs2] at hst
   refine ⟨.slice (some ⟨g, off, none⟩) (vs.length + 1) cap, X.setRow g cs, ?_, .inr ⟨g, off, cap, cs, by rw [List.length_append]; rfl, setRow_heap X g cur _ _ _ hg, by rw [List.length_append]; exact hroom, hm, ?_, ?_⟩, ⟨rfl, rfl, rfl, by rw [size_setRow]; exact Nat.le_refl _, fun k _ hk => setRow_other X g k _ (fun e => hk (by rw [e]; rfl))⟩, .inl rfl⟩
   ·simp [Builtin.append_, run_underlying hu, sizeOf, typeInfo, i1, Builtin.lenOf, hroom, hfc, i3, Addr.add_lit, hst]
   ·rw [← hcs2]
    simp only [List.size_toArray, List.length_append, List.length_take, List.length_drop, Array.length_toList, List.length_singleton]
    omega
   ·rw [← hcs2, List.length_append, List.length_singleton, List.toList_toArray]
    have hcz : cur.toList.length = cur.size := Array.length_toList
    have hlt : off + vs.length ≤ cur.toList.length := by omega
    have e1 : (List.take (off + vs.length) cur.toList).length = off + vs.length := by rw [List.length_take, Nat.min_eq_left hlt]
    have e2 : List.drop off (List.take (off + vs.length) cur.toList) = vs := by rw [List.drop_take, show off + vs.length - off = vs.length by omega, htk]
    rw [List.append_assoc, List.drop_append_of_le_length (by rw [e1]; omega), e2, ← List.append_assoc]
    exact List.take_left' (by simp)
  ·obtain ⟨v', w', hr, h5, h6⟩ := run_append_arg_grows (P := Tryz.prog) X 111 ty 30 i (.slice none 0 0) 1 24 hu i1 i2 i3 i4 rfl (by decide) ⟨g, off, none⟩ vs.length cap vs (by rw [Nat.mul_one]) (fun j u hj => by
    rw [addr_off, cell_of_row _ _ _ _ _ (0, 0) hg, ← Array.getElem?_toList]
    rw [← htk, List.getElem?_take] at hj
    split at hj
    ·rw [List.getElem?_drop] at hj
     exact hj
    ·cases hj) ⟨S, 0, none⟩ 1 c [x] rfl hnews (by omega) (by unfold maxLen; omega) (by omega)
   refine ⟨v', w', hr, own_sl h5, ⟨h6.os, h6.tape, h6.output, h6.size, fun k hk _ => h6.block k hk (by simp)⟩, ?_⟩
   rcases h5.2 with ⟨_, h0⟩ | ⟨g', cap', cur', e, hB, _⟩
   ·omega
   ·exact .inr ⟨g', by rw [e]; rfl, hB⟩
theorem sl_tail {X : World} {g off cap : Nat} {x : Value} {vs : List Value} (h : SlRow X (.slice (some ⟨g, off, none⟩) (vs.length + 1) cap) (x :: vs)) :
  ∃ o', (∀ W : World, (Instr.sliceAt 111 (.slice (some ⟨g, off, none⟩) (vs.length + 1) cap) (some (.int .i64 1)) none none).run Tryz.prog W = .ok (.slice (some ⟨g, o', none⟩) vs.length (cap - 1)) W) ∧ SlRow X (.slice (some ⟨g, o', none⟩) vs.length (cap - 1)) vs ∧ X.cell? ⟨g, off, none⟩ = some x := by
 rcases h with ⟨h, _⟩ | ⟨g', off', cap', cur, e, hg, hc, hm, hcs, htk⟩
 ·cases h
 injection e with e1 _ e3
 injection e1 with e1
 injection e1 with e1 e2 _
 subst e1 e2 e3
 rw [List.length_cons] at hc htk
 have hu := underlying111
 obtain ⟨i, i1, i2, i3, i4⟩ := info_parts slInfo
 have hcur : off < cur.toList.length := by rw [Array.length_toList]; omega
 have hd : cur.toList.drop off = x :: cur.toList.drop (off + 1) := by
  have h1 := List.drop_eq_getElem_cons hcur
  rw [h1] at htk
  rw [h1]
  rw [List.take_succ_cons] at htk
  rw [(List.cons.inj htk).1]
 rw [hd, List.take_succ_cons] at htk
 have htk := (List.cons.inj htk).2
 refine ⟨if cap = 1 then off else off + 1, fun W => ?_, .inr ⟨g, _, cap - 1, cur, rfl, hg, by omega, by omega, ?_, ?_⟩, ?_⟩
 ·have h1 : (1 : Int) ≤ ((vs.length : Int) + 1) := by omega
  by_cases hc1 : cap = 1
  ·simp [Instr.sliceAt, Instr.slice, Instr.sliceBounds, Instr.sliceBound, asIntOf, run_underlying hu, sizeOf, typeInfo, i1, i3, hc1, h1]
  ·simp [Instr.sliceAt, Instr.slice, Instr.sliceBounds, Instr.sliceBound, asIntOf, run_underlying hu, sizeOf, typeInfo, i1, i3, hc1, h1, Addr.add]
 ·split <;> omega
 ·split
  ·have : vs = [] := List.eq_nil_of_length_eq_zero (by omega)
   rw [this]
   rfl
  ·exact htk
 ·rw [cell_of_row _ _ _ _ _ (0, 0) hg, ← Array.getElem?_toList]
  have : (cur.toList.drop off)[0]? = some x := by rw [hd]; exact List.getElem?_cons_zero
  rw [List.getElem?_drop, Nat.add_zero] at this
  exact this
theorem step_slapp {w : World} {ops : Array Oper} {rest : List Oper} {o : Oper} {a : Act} {Q : Exit → Act → World → Prop} (hgd : Region.wanted o (yielded ops a.tmps) = true) (sl x : Operand)
  (ho : o.op = .call { callee := .builtin .append, args := #[sl, x], argTypes := #[111, 111] }) (v : Value) (vs : List Value) (hs : a.eval sl = v) (h : SlRow w v vs) (hl : vs.length ≤ 1000000)
  (S c : Nat) (hx : a.eval x = .slice (some ⟨S, 0, none⟩) 1 c) (u : Value) (hu : w.cell? ⟨S, 0, none⟩ = some u) (h1 : u.oneCell' = true)
  (hK : ∀ v' w', SlRow w' v' (vs ++ [u]) → w.grownBy w' v.ownBlock → NewO w.heap.size v.ownBlock v'.ownBlock → wpList Tryz.prog ops Q rest (a.put o.dst v') w') : wpList Tryz.prog ops Q (o :: rest) a w :=
 wpList_wanted hgd fun _ hK' => by
  obtain ⟨v', w', hrun, h5, h6, h7⟩ := sl_append h hl o.type hu h1 c
  unfold Oper.wp execOp
  simp only [ho, resolve, invoke, builtin, Sem.run_bind, Sem.run_pure, Result.andThen_ok, List.map_toArray, List.map_cons, List.map_nil, hs, hx, hrun]
  exact hK' _ _ (hK v' w' h5 h6 h7)
structure FrQ (B qb : Nat) (O : Option Nat) (X Y : World) : Prop where
 below : Below B X Y
 keep : ∀ k, k < X.heap.size → k ≠ qb → some k ≠ O → Y.heap[k]? = X.heap[k]?
attribute [-go_sem] Instr.storeAt in
theorem qput_of (B qb : Nat) (v : Value) (vs : List Value) (A : Option Addr) (n c : Nat) (hl : vs.length ≤ 1000000) (X : World) (hr : X.heap[qb]? = some (.cells #[v] 113 (0, 0))) (h : SlRow X v vs) (hB : B ≤ qb) (hv : ∀ k, v.ownBlock = some k → B ≤ k) :
  Calls Tryz.prog 77 #[.pointer (some ⟨qb, 0, none⟩), .slice A n c] X fun e Y => e = .returned (.tuple #[]) ∧ (∃ v', Y.heap[qb]? = some (.cells #[v'] 113 (0, 0)) ∧ SlRow Y v' (vs ++ [.slice A n c]) ∧ NewO X.heap.size v.ownBlock v'.ownBlock) ∧ FrQ B qb v.ownBlock X Y := by
 have c0 := iCells0 hr
 obtain ⟨A5, c5, hv5⟩ := h.form
 obtain ⟨gl, hgl⟩ : ∃ gl, vs.length = gl := ⟨_, rfl⟩
 rw [hgl] at hv5
 subst hv5
 have hbn := nwB X (.cells #[.slice A n c] 30)
 have h1 : SlRow (X.alloc (.cells #[.slice A n c] 30)) (.slice A5 gl c5) vs := h.kept fun k hk => hbn.block k (h.lt k hk)
 have k1 : (X.alloc (.cells #[.slice A n c] 30)).cell? ⟨X.heap.size, 0, none⟩ = some (.slice A n c) := iCells0 (heap_alloc_new X _)
 have hr1 := iNext hr hbn
 have hlt := lt_of_block hr
 have hqt : some qb ≠ (Value.slice A5 gl c5).ownBlock := fun e => h.tag hr (fun _ _ e => by injection e with _ e _; exact absurd e (by decide)) e.symm
 have H1 := hide h1; have K1 := hide k1; have HR1 := hide hr1; have HBN := hide hbn; have HGL := hide hgl; have HV := hide hv; have HR := hide hr; have HQT := hide hqt; have HLO := hide h.lt
 clear h h1 k1 hr1 hbn hgl hv hr hqt
 go_enter func77, ntmps77
 go_wp2_with (at_builtin; go_loud (refine step_slapp rfl (.tmp 8) (.tmp 10) rfl _ vs rfl H1.out hl X.heap.size 1 rfl _ K1.out rfl ?_))
 intro v1 w1 h2 h3 h4
 obtain ⟨A6, c6, hv6⟩ := h2.form
 have hlv : (vs ++ [Value.slice A n c]).length = gl + 1 := by rw [List.length_append, HGL.out]; rfl
 rw [hlv] at hv6
 subst hv6
 have hr2 : w1.heap[qb]? = some (.cells #[.slice A5 gl c5] 113 (0, 0)) := (h3.block qb (lt_of_block HR1.out) HQT.out).trans HR1.out
 have hst := store_part (ty := 111) w1 qb 0 #[.slice A5 gl c5] (.slice A6 (gl + 1) c6) #[.slice A6 (gl + 1) c6] hr2 (by kernel_rfl) (Nat.le_refl _) (one_slice _ _ _) rfl
 have hr3 := setRow_heap w1 qb _ #[.slice A6 (gl + 1) c6] _ _ hr2
 have hn2 : (Value.slice A6 (gl + 1) c6).ownBlock ≠ some qb := h2.tag hr2 (fun _ _ e => by injection e with _ e _; exact absurd e (by decide))
 have h5 : SlRow (w1.setRow qb #[.slice A6 (gl + 1) c6]) (.slice A6 (gl + 1) c6) (vs ++ [.slice A n c]) := h2.kept fun k hk => setRow_other w1 qb k _ (fun e => hn2 (by rw [hk, e]))
 have hN : NewO X.heap.size (Value.slice A5 gl c5).ownBlock (Value.slice A6 (gl + 1) c6).ownBlock := by
  rcases h4 with h4 | ⟨b, e, hb⟩
  ·exact .inl h4
  ·exact .inr ⟨b, e, by omega⟩
 have hF : FrQ B qb (Value.slice A5 gl c5).ownBlock X (w1.setRow qb #[.slice A6 (gl + 1) c6]) := by
  refine ⟨below_setRow (((Below.refl B X).alloc (by omega) _).grown h3 (by rw [World.size_alloc]; omega) HV.out) hB _, fun k hk hq ho => ?_⟩
  exact (setRow_other w1 qb k _ hq).trans ((h3.block k (by rw [World.size_alloc]; omega) ho).trans (HBN.out.block k hk))
 have HR3 := hide hr3; have H5 := hide h5; have HN := hide hN; have HF := hide hF
 clear h2 h3 h4 hlv hr2 hr3 hn2 h5 hN hF c0
 go_wp2_with fail
 go_end0
 exact ⟨rfl, ⟨_, HR3.out, H5.out, HN.out⟩, HF.out⟩
theorem qtake_no (qb : Nat) (v : Value) (X : World) (hr : X.heap[qb]? = some (.cells #[v] 113 (0, 0))) (h : SlRow X v []) :
  Calls Tryz.prog 78 #[.pointer (some ⟨qb, 0, none⟩)] X fun e Y => e = .returned (.tuple #[.slice none 0 0, .bool false]) ∧ Y = X := by
 have c0 := iCells0 hr
 obtain ⟨A5, c5, hv5⟩ := h.form
 subst hv5
 clear h hr
 go_enter func78, ntmps78
 go_wp2
 go_ret2
 exact ⟨rfl, rfl⟩
attribute [-go_sem] Instr.storeAt in
theorem qtake_of (B qb : Nat) (v x : Value) (vs : List Value) (hx1 : x.oneCell' = true) (hl : vs.length ≤ 1000000) (X : World) (hr : X.heap[qb]? = some (.cells #[v] 113 (0, 0))) (h : SlRow X v (x :: vs)) (hB : B ≤ qb) :
  Calls Tryz.prog 78 #[.pointer (some ⟨qb, 0, none⟩)] X fun e Y => e = .returned (.tuple #[x, .bool true]) ∧ (∃ v', Y.heap[qb]? = some (.cells #[v'] 113 (0, 0)) ∧ SlRow Y v' vs ∧ v'.ownBlock = v.ownBlock) ∧ FrQ B qb none X Y := by
 have hmx := hmxQ
 have h0 := h
 rcases h with ⟨_, h⟩ | ⟨g, off, cap, cur, rfl, hg, hc, hm, hcs, htk⟩
 ·cases h
 obtain ⟨o', htl, hsl, hcx⟩ := sl_tail h0
 obtain ⟨gl, hgl⟩ : ∃ gl, vs.length = gl := ⟨_, rfl⟩
 have hgl1 : (x :: vs).length = gl + 1 := by rw [List.length_cons, hgl]
 rw [hgl] at htl hsl hl
 rw [hgl1]
 rw [hgl1] at hr
 have HTL := hide htl; have HSL := hide hsl; have HCX := hide hcx; have HR := hide hr; have HX1 := hide hx1; have HG := hide hg
 clear htl hsl hcx hr hx1 hgl hgl1 h0 hg hc hm hcs htk
 go_enter func78, ntmps78
 have c0 := iCells0 HR.out
 go_upto_region 4 with fail
 clear c0
 refine wp_region_noPanic ?_
 refine wp_region_L (Below X.drew.heap.size X.drew) 15 hmx ?_
 have hdr := (Below.refl X.heap.size X).drew
 have hrd := iNext HR.out hdr
 have hgd := iNext HG.out hdr
 have hcd : X.drew.cell? ⟨g, off, none⟩ = some x := HCX.out
 have hglt := lt_of_block HG.out
 have hqlt := lt_of_block HR.out
 have HRK := hide (fun Y (hY : Below X.drew.heap.size X.drew Y) => iNext hrd hY)
 have HXK := hide (fun Y (hY : Below X.drew.heap.size X.drew Y) => (hY.cell (p := ⟨g, off, none⟩) hglt).trans hcd)
 have hH0 := Below.refl X.drew.heap.size X.drew
 have hbu := hdr
 have hsu : SlRow X.drew (.slice (some ⟨g, o', none⟩) gl (cap - 1)) vs := HSL.out
 have HBU := hide hbu; have HSU := hide hsu
 clear hdr hrd hgd hcd hglt hbu hsu HCX HSL HG HR
 generalize X.drew = u0 at *
 refine tU 0 18 hH0 rfl ?_
 refine tU 1 18 hH0 rfl ?_
 refine tU 2 18 hH0 rfl ?_
 refine tU 3 18 hH0 rfl ?_
 refine tU 4 18 hH0 rfl ?_ (by intro wS hS; have f0 : wS.cell? ⟨qb, 0, none⟩ = some (.slice (some ⟨g, off, none⟩) (gl + 1) cap) := iCells0 (HRK.out _ hS); go_simp; (try with_reducible rfl))
 refine tU 5 18 hH0 rfl ?_
 refine tU 6 18 hH0 rfl ?_ (by intro wS hS; have f0 : wS.cell? ⟨g, off, none⟩ = some x := HXK.out _ hS; go_simp; (try with_reducible rfl))
 refine tU 7 18 hH0 rfl ?_
 refine tU 8 18 hH0 rfl ?_
 refine tU 9 18 hH0 rfl ?_
 refine tU 10 18 hH0 rfl ?_ (by intro wS hS; have f0 : wS.cell? ⟨qb, 0, none⟩ = some (.slice (some ⟨g, off, none⟩) (gl + 1) cap) := iCells0 (HRK.out _ hS); go_simp; (try with_reducible rfl))
 refine tU 11 18 hH0 rfl ?_ (by intro wS hS; have f0 := HTL.out wS; go_simp; (try with_reducible rfl))
 refine tU 12 18 hH0 rfl ?_
 refine tU 13 18 hH0 rfl ?_
 refine tU 14 18 hH0 rfl ?_
 refine oY 15 fun K hK => ?_
 have hst := store_part (ty := 111) u0 qb 0 #[.slice (some ⟨g, off, none⟩) (gl + 1) cap] (.slice (some ⟨g, o', none⟩) gl (cap - 1)) #[.slice (some ⟨g, o', none⟩) gl (cap - 1)] (HRK.out _ hH0) (by kernel_rfl) (Nat.le_refl _) (one_slice _ _ _) rfl
 go_simp
 refine hK.out _ _ (Or.inl rfl) ?_
 clear hK K
 try simp only [Act.put, pu]
 refine dnY ?_
 have hr5 := setRow_heap u0 qb _ #[.slice (some ⟨g, o', none⟩) gl (cap - 1)] _ _ (HRK.out _ hH0)
 have hng : g ≠ qb := fun e => HSU.out.tag (HRK.out _ hH0) (fun _ _ e => by injection e with _ e _; exact absurd e (by decide)) (by rw [← e]; rfl)
 have h5 : SlRow (u0.setRow qb #[.slice (some ⟨g, o', none⟩) gl (cap - 1)]) (.slice (some ⟨g, o', none⟩) gl (cap - 1)) vs := HSU.out.kept fun k hk => setRow_other u0 qb k _ (fun e => hng (by injection hk with hk; exact hk.trans e))
 have hF : FrQ B qb none X (u0.setRow qb #[.slice (some ⟨g, o', none⟩) gl (cap - 1)]) := ⟨below_setRow (HBU.out.mono (Nat.le_trans hB (Nat.le_of_lt hqlt))) hB _, fun k hk hq _ => (setRow_other u0 qb k _ hq).trans (HBU.out.block k hk)⟩
 have HR5 := hide hr5; have H5 := hide h5; have HF := hide hF
 clear hr5 hng h5 hF hH0
 go_wp2_with fail
 go_ret2
 exact ⟨rfl, ⟨_, HR5.out, H5.out, rfl⟩, HF.out⟩
theorem lawP2 : Keyed Tryz.prog 114 := Keyed.of_law (WideMaps.ArrKey.law (e := 3) (n := 2) ⟨underlying114, by kernel_rfl, by kernel_rfl, by kernel_rfl⟩)
def p2V (a b : Nat) : Value := .agg #[.int .i64 (a : Int), .int .i64 (b : Int)]
noncomputable def p2K (a b : Nat) : Lit := (keyOf Tryz.prog 114 (p2V a b)).getD (.bool false)
theorem p2_key {a b : Nat} (ha : a < 4) (hb : b < 4) : keyOf Tryz.prog 114 (p2V a b) = some (p2K a b) := by
 have hs : (keyOf Tryz.prog 114 (p2V a b)).isSome = true := by
  have ha : a = 0 ∨ a = 1 ∨ a = 2 ∨ a = 3 := by omega
  have hb : b = 0 ∨ b = 1 ∨ b = 2 ∨ b = 3 := by omega
  rcases ha with rfl | rfl | rfl | rfl <;> rcases hb with rfl | rfl | rfl | rfl <;> decide +kernel
 unfold p2K
 cases hq : keyOf Tryz.prog 114 (p2V a b) with
 | none => rw [hq] at hs; cases hs
 | some l => rfl
theorem p2_lit {a b : Nat} (ha : a < 4) (hb : b < 4) : WideAt.IsKeyLit (p2K a b) := lawP2.key (p2_key ha hb)
theorem p2_inj {a b c d : Nat} (ha : a < 4) (hb : b < 4) (hc : c < 4) (hd : d < 4) (e : p2K a b = p2K c d) : a = c ∧ b = d := by
 have h1 := p2_key ha hb
 rw [e] at h1
 have h2 := lawP2.inj h1 (p2_key hc hd)
 unfold p2V at h2
 injection h2 with h2
 have h3 := congrArg Array.toList h2
 simp only [List.cons.injEq, Value.int.injEq, true_and, and_true] at h3
 omega
def qV : Option Nat → Value
 | none => .pointer none
 | some b => .pointer (some ⟨b, 0, none⟩)
def qD : Option Nat → DataW Unit
 | none => .nil
 | some b => .lit (.int .i64 (b : Int))
theorem qV_inj (x y : Option Nat) (h : qV x = qV y) : x = y := by
 cases x <;> cases y <;> simp [qV] at h ⊢
 exact h
theorem qD_inj (x y : Option Nat) (h : qD x = qD y) : x = y := by
 cases x <;> cases y <;> simp [qD] at h ⊢
 omega
noncomputable def rQ : Value → Option (DataW Unit × List MemPlace) := rdBy qV qD
def LinesAt (X : World) (lb : Nat) (P : Nat → Nat → Prop) (q : Nat → Nat → Nat) (N : Nat) : Prop := ∃ D, X.ownsMap Tryz.prog 114 rQ lb N D ∧ ∀ i k, i < 4 → k < 4 → P i k → ∀ zd, D.atKey (p2K i k) zd = qD (some (q i k))
theorem LinesAt.lt {X : World} {lb N : Nat} {P : Nat → Nat → Prop} {q : Nat → Nat → Nat} (h : LinesAt X lb P q N) : lb < X.heap.size := by
 obtain ⟨D, h, _⟩ := h
 exact h.lt
theorem LinesAt.same {X Y : World} {lb N : Nat} {P : Nat → Nat → Prop} {q : Nat → Nat → Nat} (h : LinesAt X lb P q N) (e : Y.heap[lb]? = X.heap[lb]?) : LinesAt Y lb P q N := by
 obtain ⟨D, ⟨es, clock, hb, h⟩, hD⟩ := h
 exact ⟨D, ⟨es, clock, e.trans hb, h⟩, hD⟩
theorem LinesAt.obj {X : World} {lb N : Nat} {P : Nat → Nat → Prop} {q : Nat → Nat → Nat} (h : LinesAt X lb P q N) : ∃ es k, X.heap[lb]? = some (.map es k) := by
 obtain ⟨D, ⟨es, clock, hb, h⟩, hD⟩ := h
 exact ⟨es, clock, hb⟩
theorem LinesAt.look {X : World} {lb N : Nat} {P : Nat → Nat → Prop} {q : Nat → Nat → Nat} (h : LinesAt X lb P q N) {i k : Nat} (hi : i < 4) (hk : k < 4) (hP : P i k) : (Instr.lookup 104 (.map (some lb)) (.agg #[.int .i64 (i : Int), .int .i64 (k : Int)]) false).run Tryz.prog X = .ok (.pointer (some ⟨q i k, 0, none⟩)) X := by
 obtain ⟨D, h, hD⟩ := h
 obtain ⟨v, ps, hrun, hv⟩ := h.lookup lawP2 underlying104 (z := qV none) (by kernel_rfl) (zd := qD none) (zp := []) (rdBy_mk qV_inj _) (p2_key hi hk)
 rw [hD i k hi hk hP] at hv
 have e := rdBy_inv qD_inj hv
 rw [e] at hrun
 exact hrun
theorem LinesAt.lay {X : World} {lb N : Nat} {P : Nat → Nat → Prop} {q : Nat → Nat → Nat} (h : LinesAt X lb P q N) (hN : N ≤ 100000) {a b : Nat} (ha : a < 4) (hb : b < 4) (c : Nat) : ∃ Y, (Instr.mapUpdate 104 (.map (some lb)) (.agg #[.int .i64 (a : Int), .int .i64 (b : Int)]) (.pointer (some ⟨c, 0, none⟩))).run Tryz.prog X = .ok () Y ∧
  LinesAt Y lb (fun i k => P i k ∨ (i = a ∧ k = b)) (fun i k => if i = a ∧ k = b then c else q i k) (N + 1) ∧ X.grownBy Y (some lb) := by
 obtain ⟨D, h, hD⟩ := h
 obtain ⟨Y, h1, h2, h3⟩ := h.update lawP2 underlying104 (by unfold maxLen; omega) (p2_key ha hb) (rdBy_mk (D := qD) qV_inj (some c))
 refine ⟨Y, h1, ⟨_, h2, fun i k hi hk hP zd => ?_⟩, h3⟩
 show _ = qD (some (if i = a ∧ k = b then c else q i k))
 by_cases e : i = a ∧ k = b
 ·obtain ⟨rfl, rfl⟩ := e
  have h9 := atKey_put_same h.isMap (p2_lit ha hb) (qD (some c)) zd
  rw [if_pos ⟨rfl, rfl⟩]
  exact h9
 ·rw [if_neg e, atKey_put_other (fun e2 => e (p2_inj hi hk ha hb e2))]
  rcases hP with hP | hP
  ·exact hD i k hi hk hP zd
  ·exact absurd hP e
def setL : Lay (Nat × Nat) := ⟨fun s => [.pointer (some ⟨s.1, 0, none⟩), .int .i64 (s.2 : Int)], 2, fun _ => rfl, fun x u hu => by
 simp only [List.mem_cons, List.not_mem_nil, or_false] at hu
 rcases hu with rfl | rfl <;> rfl⟩
def seatsL (pb : Nat → Nat) (n : Nat) : List (Nat × Nat) := (List.range n).map fun i => (pb i, i)
theorem seatsL_len (pb : Nat → Nat) (n : Nat) : (seatsL pb n).length = n := by unfold seatsL; rw [List.length_map, List.length_range]
def MsgRow (X : World) (v : Value) (ms : List (List Dg.Cl)) : Prop := ∃ vs, SlRow X v vs ∧ vs.length = ms.length ∧ ∀ (j : Nat) (u : Value) (l : List Dg.Cl), vs[j]? = some u → ms[j]? = some l → Own1 clL 55 X 0 u l
structure CC where
 B : Nat
 cp : Nat
 sb : Nat
 cap : Nat
 lb : Nat
 pb : Nat → Nat
 mp : Nat → Nat
 q : Nat → Nat → Nat
structure ChaS (K : CC) (n : Nat) (s : Dg.Ch) (V : Nat → Nat → Value) (X : World) : Prop where
 rc : X.heap[K.cp]? = some (.cells #[.slice (some ⟨K.sb, 0, none⟩) n K.cap, .map (some K.lb)] 107 (0, 0))
 rs : Own1 setL 109 X K.B (.slice (some ⟨K.sb, 0, none⟩) n K.cap) (seatsL K.pb n)
 pages : ∀ i, i < n → PageAt X (K.pb i) (K.mp i) (s.pg i)
 lines : LinesAt X K.lb (fun i k => i < n ∧ k < n ∧ i ≠ k) K.q 1000
 que : ∀ i k, i < n → k < n → i ≠ k → X.heap[K.q i k]? = some (.cells #[V i k] 113 (0, 0))
 row : ∀ i k, i < n → k < n → i ≠ k → MsgRow X (V i k) (s.ln i k)
 up : ∀ i k, i < n → k < n → i ≠ k → ∀ j, (V i k).ownBlock = some j → K.B ≤ j
 apart : ∀ i k i' k', i < n → k < n → i ≠ k → i' < n → k' < n → i' ≠ k' → ¬ (i = i' ∧ k = k') → ∀ j, (V i k).ownBlock = some j → (V i' k').ownBlock ≠ some j
 qinj : ∀ i k i' k', i < n → k < n → i ≠ k → i' < n → k' < n → i' ≠ k' → K.q i k = K.q i' k' → i = i' ∧ k = k'
 minj : ∀ i k, i < n → k < n → K.mp i = K.mp k → i = k
 lbne : ∀ i, i < n → K.mp i ≠ K.lb
 bq : ∀ i k, i < n → k < n → i ≠ k → K.B ≤ K.q i k
 bm : ∀ i, i < n → K.B ≤ K.mp i
 n4 : n ≤ 4
def ChaAt (K : CC) (n : Nat) (s : Dg.Ch) (X : World) : Prop := ∃ V, ChaS K n s V X
theorem tag_ne {X : World} {g g' : Nat} {o o' : Obj} (h1 : X.heap[g]? = some o) (h2 : X.heap[g']? = some o') (hne : o ≠ o') : g ≠ g' := fun e => by
 rw [e, h2] at h1
 injection h1 with h1
 exact hne h1.symm
theorem MsgRow.kept {X Y : World} {v : Value} {ms : List (List Dg.Cl)} (h : MsgRow X v ms) (hk : ∀ k, v.ownBlock = some k → Y.heap[k]? = X.heap[k]?) (hm : ∀ (k : Nat) (cs : Array Value) (fr : Nat × Nat), X.heap[k]? = some (Obj.cells cs 55 fr) → Y.heap[k]? = X.heap[k]?) : MsgRow Y v ms := by
 obtain ⟨vs, h1, h2, h3⟩ := h
 refine ⟨vs, h1.kept hk, h2, fun j u l hj hl => ?_⟩
 have ho := h3 j u l hj hl
 refine own_kept ho fun k hku => ?_
 rcases ho.2 with ⟨rfl, _⟩ | ⟨g, cap, cur, rfl, _, hg, _⟩
 ·cases hku
 ·injection hku with hku
  rw [← hku]
  exact hm g _ _ hg
theorem ChaS.kept {K : CC} {n : Nat} {s : Dg.Ch} {V : Nat → Nat → Value} {X Y : World} (h : ChaS K n s V X) (hb : Below X.heap.size X Y) : ChaS K n s V Y := by
 have hl : ∀ {k : Nat} {o : Obj}, X.heap[k]? = some o → Y.heap[k]? = X.heap[k]? := fun {k o} ho => hb.block k (lt_of_block ho)
 exact ⟨(hl h.rc).trans h.rc, h.rs.below hb, fun i hi => (h.pages i hi).below hb, h.lines.same (hb.block _ h.lines.lt), fun i k hi hk hik => (hl (h.que i k hi hk hik)).trans (h.que i k hi hk hik),
  fun i k hi hk hik => (h.row i k hi hk hik).kept (fun j hj => hb.block j (by obtain ⟨vs, h1, _⟩ := h.row i k hi hk hik; exact h1.lt j hj)) (fun j cs fr hj => hl hj), h.up, h.apart, h.qinj, h.minj, h.lbne, h.bq, h.bm, h.n4⟩
theorem ChaAt.below {K : CC} {n : Nat} {s : Dg.Ch} {X Y : World} (h : ChaAt K n s X) (hb : Below X.heap.size X Y) : ChaAt K n s Y := by
 obtain ⟨V, h⟩ := h
 exact ⟨V, h.kept hb⟩
theorem MapAt.obj {X : World} {m : Nat} {pg : List Dg.Cl} (h : MapAt X m pg) : ∃ es k, X.heap[m]? = some (.map es k) := by
 obtain ⟨D, ⟨es, clock, hb, h⟩, hD⟩ := h
 exact ⟨es, clock, hb⟩
theorem ChaAt.n4 {K : CC} {n : Nat} {s : Dg.Ch} {X : World} (h : ChaAt K n s X) : n ≤ 4 := by
 obtain ⟨V, h⟩ := h
 exact h.n4
theorem ChaAt.page {K : CC} {n : Nat} {s : Dg.Ch} {X Y : World} (h : ChaAt K n s X) {i : Nat} (hi : i < n) {pg : List Dg.Cl} (hp : PageAt Y (K.pb i) (K.mp i) pg) (hg : X.grownBy Y (some (K.mp i))) : ChaAt K n (Dg.withC s i pg) Y := by
 obtain ⟨V, h⟩ := h
 obtain ⟨es, c, hm⟩ := (h.pages i hi).map.obj
 have hc : ∀ {k : Nat} {cs : Array Value} {T : TypeId} {fr : Nat × Nat}, X.heap[k]? = some (.cells cs T fr) → Y.heap[k]? = X.heap[k]? := fun {k cs T fr} ho => hg.block k (lt_of_block ho) (fun e => by
  injection e with e
  exact tag_ne ho hm (fun e => by cases e) e)
 refine ⟨V, (hc h.rc).trans h.rc, own_kept h.rs fun k hk => ?_, fun j hj => ?_, h.lines.same (hg.block _ h.lines.lt (fun e => h.lbne i hi (by injection e with e; exact e.symm))), fun j k hj hk hjk => (hc (h.que j k hj hk hjk)).trans (h.que j k hj hk hjk),
  fun j k hj hk hjk => (h.row j k hj hk hjk).kept (fun g hgk => ?_) (fun g cs fr hgk => hc hgk), h.up, h.apart, h.qinj, h.minj, h.lbne, h.bq, h.bm, h.n4⟩
 ·injection hk with hk
  subst hk
  rcases h.rs.2 with ⟨e, _⟩ | ⟨g, cap, cur, e, _, hgb, _⟩
  ·cases e
  ·injection e with e
   injection e with e
   injection e with e
   have e : K.sb = g := e
   show Y.heap[K.sb]? = X.heap[K.sb]?
   rw [e]
   exact hc hgb
 ·show PageAt Y (K.pb j) (K.mp j) (Dg.upP s.pg i pg j)
  by_cases e : j = i
  ·subst e
   rw [Dg.upP_at]
   exact hp
  ·rw [Dg.upP_ne _ _ e]
   have hj' := h.pages j hj
   exact ⟨(hc hj'.row).trans hj'.row, hj'.map.same (hg.block _ hj'.map.lt (fun e2 => e (h.minj j i hj hi (by injection e2))))⟩
 ·obtain ⟨vs, h1, _⟩ := h.row j k hj hk hjk
  rcases h1 with ⟨e, _⟩ | ⟨g', off, cap, cur, e, hgb, _⟩
  ·rw [e] at hgk
   cases hgk
  ·rw [e] at hgk
   injection hgk with hgk
   rw [← hgk]
   exact hc hgb
theorem ChaAt.queue {K : CC} {n : Nat} {s s' : Dg.Ch} {X Y : World} (V : Nat → Nat → Value) (h : ChaS K n s V X) {a b : Nat} (ha : a < n) (hb : b < n) (hab : a ≠ b) {v' : Value} (hF : FrQ K.B (K.q a b) (V a b).ownBlock X Y) (hr : Y.heap[K.q a b]? = some (.cells #[v'] 113 (0, 0)))
  (hm : MsgRow Y v' (s'.ln a b)) (hN : NewO X.heap.size (V a b).ownBlock v'.ownBlock) (hpg : s'.pg = s.pg) (hln : ∀ i k, ¬ (i = a ∧ k = b) → s'.ln i k = s.ln i k) : ChaAt K n s' Y := by
 have hq := h.que a b ha hb hab
 have hO : ∀ {k : Nat} {o : Obj}, X.heap[k]? = some o → (∀ cs fr, o ≠ .cells cs 30 fr) → some k ≠ (V a b).ownBlock := fun {k o} ho hne e => by
  obtain ⟨vs, h1, _⟩ := h.row a b ha hb hab
  exact h1.tag ho hne e.symm
 have hc : ∀ {k : Nat} {o : Obj}, X.heap[k]? = some o → (∀ cs fr, o ≠ .cells cs 30 fr) → (∀ cs fr, o ≠ .cells cs 113 fr) → Y.heap[k]? = X.heap[k]? := fun {k o} ho h1 h2 => hF.keep k (lt_of_block ho) (tag_ne ho hq (h2 _ _)) (hO ho h1)
 have hkO : K.B ≤ X.heap.size := Nat.le_of_lt (Nat.lt_of_le_of_lt (h.bq a b ha hb hab) (lt_of_block hq))
 refine ⟨fun i k => if i = a ∧ k = b then v' else V i k, (hc h.rc (fun _ _ e => by injection e with _ e _; exact absurd e (by decide)) (fun _ _ e => by injection e with _ e _; exact absurd e (by decide))).trans h.rc, own_kept h.rs fun k hk => ?_, fun j hj => ?_, ?_, fun i k hi hk hik => ?_, fun i k hi hk hik => ?_, fun i k hi hk hik j hj => ?_, fun i k i' k' hi hk hik hi' hk' hik' hne j hj => ?_, h.qinj, h.minj, h.lbne, h.bq, h.bm, h.n4⟩
 ·injection hk with hk
  subst hk
  rcases h.rs.2 with ⟨e, _⟩ | ⟨g, cap, cur, e, _, hgb, _⟩
  ·cases e
  ·injection e with e
   injection e with e
   injection e with e
   have e : K.sb = g := e
   show Y.heap[K.sb]? = X.heap[K.sb]?
   rw [e]
   exact hc hgb (fun _ _ e => by injection e with _ e _; exact absurd e (by decide)) (fun _ _ e => by injection e with _ e _; exact absurd e (by decide))
 ·rw [hpg]
  have hj' := h.pages j hj
  obtain ⟨es, c, hm'⟩ := hj'.map.obj
  exact ⟨(hc hj'.row (fun _ _ e => by injection e with _ e _; exact absurd e (by decide)) (fun _ _ e => by injection e with _ e _; exact absurd e (by decide))).trans hj'.row, hj'.map.same (hc hm' (fun _ _ e => by cases e) (fun _ _ e => by cases e))⟩
 ·obtain ⟨es, c, hm'⟩ := h.lines.obj
  exact h.lines.same (hc hm' (fun _ _ e => by cases e) (fun _ _ e => by cases e))
 ·show Y.heap[K.q i k]? = some (.cells #[if i = a ∧ k = b then v' else V i k] _ _)
  by_cases e : i = a ∧ k = b
  ·rw [if_pos e, e.1, e.2]
   exact hr
  ·rw [if_neg e]
   have hq' := h.que i k hi hk hik
   refine (hF.keep _ (lt_of_block hq') (fun e2 => e (h.qinj i k a b hi hk hik ha hb hab e2)) (hO hq' (fun _ _ e => by injection e with _ e _; exact absurd e (by decide)))).trans hq'
 ·show MsgRow Y (if i = a ∧ k = b then v' else V i k) (s'.ln i k)
  by_cases e : i = a ∧ k = b
  ·rw [if_pos e, e.1, e.2]
   exact hm
  ·rw [if_neg e, hln i k e]
   refine (h.row i k hi hk hik).kept (fun g hgk => ?_) (fun g cs fr hgk => hc hgk (fun _ _ e => by injection e with _ e _; exact absurd e (by decide)) (fun _ _ e => by injection e with _ e _; exact absurd e (by decide)))
   obtain ⟨vs, h1, _⟩ := h.row i k hi hk hik
   have hg0 := h1.lt g hgk
   refine hF.keep g hg0 (fun e2 => h1.tag hq (fun _ _ e => by injection e with _ e _; exact absurd e (by decide)) (by rw [← e2]; exact hgk)) (fun e2 => h.apart i k a b hi hk hik ha hb hab e g hgk e2.symm)
 ·have hj : (if i = a ∧ k = b then v' else V i k).ownBlock = some j := hj
  by_cases e : i = a ∧ k = b
  ·rw [if_pos e] at hj
   rcases hN with hN | ⟨g, e2, hg⟩
   ·exact h.up a b ha hb hab j (by rw [← hN]; exact hj)
   ·rw [e2] at hj
    injection hj with hj
    omega
  ·rw [if_neg e] at hj
   exact h.up i k hi hk hik j hj
 ·have old : ∀ x y, x < n → y < n → x ≠ y → ∀ g, (V x y).ownBlock = some g → g < X.heap.size := fun x y hx hy hxy g hg => by
   obtain ⟨vs, h1, _⟩ := h.row x y hx hy hxy
   exact h1.lt g hg
  have hj : (if i = a ∧ k = b then v' else V i k).ownBlock = some j := hj
  show (if i' = a ∧ k' = b then v' else V i' k').ownBlock ≠ some j
  by_cases e : i = a ∧ k = b
  ·have e' : ¬ (i' = a ∧ k' = b) := fun e' => hne ⟨e.1.trans e'.1.symm, e.2.trans e'.2.symm⟩
   rw [if_pos e] at hj
   rw [if_neg e']
   rcases hN with hN | ⟨g, e2, hg⟩
   ·exact h.apart a b i' k' ha hb hab hi' hk' hik' (fun e3 => e' ⟨e3.1.symm, e3.2.symm⟩) j (by rw [← hN]; exact hj)
   ·rw [e2] at hj
    injection hj with hj
    intro e3
    have := old i' k' hi' hk' hik' j e3
    omega
  ·rw [if_neg e] at hj
   by_cases e' : i' = a ∧ k' = b
   ·rw [if_pos e']
    intro e3
    rcases hN with hN | ⟨g, e2, hg⟩
    ·exact h.apart i k a b hi hk hik ha hb hab e j hj (by rw [← hN]; exact e3)
    ·rw [e2] at e3
     injection e3 with e3
     have := old i k hi hk hik j hj
     omega
   ·rw [if_neg e']
    exact h.apart i k i' k' hi hk hik hi' hk' hik' hne j hj
theorem seat_cells {X : World} {B sb n cap : Nat} {pb : Nat → Nat} (h : Own1 setL 109 X B (.slice (some ⟨sb, 0, none⟩) n cap) (seatsL pb n)) {i : Nat} (hi : i < n) : X.cell? ⟨sb, i * 2, none⟩ = some (.pointer (some ⟨pb i, 0, none⟩)) ∧ X.cell? ⟨sb, i * 2 + 1, none⟩ = some (.int .i64 (i : Int)) := by
 obtain ⟨A, c, hv, hr, _⟩ := h.row
 have hl := seatsL_len pb n
 obtain ⟨b, off, hA, _, hc⟩ := hr.get (k := i) (by rw [hl]; exact hi)
 injection hv with hv _ _
 rw [← hv] at hA
 injection hA with hA
 injection hA with e1 e2 _
 subst e1 e2
 have he : (seatsL pb n)[i]'(by rw [hl]; exact hi) = (pb i, i) := by simp [seatsL]
 rw [he] at hc
 have h0 := hc 0 _ (show 0 < 2 by decide) rfl
 have h1 := hc 1 _ (show 1 < 2 by decide) rfl
 rw [Nat.zero_add] at h0 h1
 exact ⟨h0, h1⟩
def FrT (X Y : World) : Prop := ∀ (k : Nat) (o : Obj), X.heap[k]? = some o → (∀ cs fr, o ≠ .cells cs 30 fr) → (∀ cs fr, o ≠ .cells cs 113 fr) → Y.heap[k]? = some o
theorem FrT.trans {X Y Z : World} (h : FrT X Y) (k : FrT Y Z) : FrT X Z := fun i o ho h1 h2 => k i o (h i o ho h1 h2) h1 h2
theorem FrT.below {X Y : World} (h : Below X.heap.size X Y) : FrT X Y := fun i o ho _ _ => (h.block i (lt_of_block ho)).trans ho
theorem FrQ.tags {B qb : Nat} {O : Option Nat} {X Y : World} (h : FrQ B qb O X Y) {v : Value} {vs : List Value} (hq : X.heap[qb]? = some (.cells #[v] 113 (0, 0))) (hs : SlRow X v vs) (hO : O = none ∨ O = v.ownBlock) : FrT X Y := fun k o ho h1 h2 => by
 refine (h.keep k (lt_of_block ho) (tag_ne ho hq (h2 _ _)) (fun e => ?_)).trans ho
 rcases hO with rfl | rfl
 ·cases e
 ·exact hs.tag ho h1 e.symm
theorem own_tagT {B : Nat} {v : Value} {l : List Dg.Cl} {X Y : World} (h : Own1 clL 55 X B v l) (hF : FrT X Y) : Own1 clL 55 Y B v l := by
 refine own_kept h fun k hk => ?_
 rcases h.2 with ⟨rfl, _⟩ | ⟨g, cap, cur, rfl, _, hg, _⟩
 ·cases hk
 ·injection hk with hk
  rw [← hk]
  exact (hF g _ hg (fun _ _ e => by injection e with _ e _; exact absurd e (by decide)) (fun _ _ e => by injection e with _ e _; exact absurd e (by decide))).trans hg.symm
theorem lineput_of {T : CC} {n : Nat} {s : Dg.Ch} (X : World) (h : ChaAt T n s X) {a b : Nat} (ha : a < n) (hb : b < n) (hab : a ≠ b) (m : List Dg.Cl) (A : Option Addr) (nn c : Nat) (hm : Own1 clL 55 X 0 (.slice A nn c) m) (hl : (s.ln a b).length ≤ 1000000) :
  Calls Tryz.prog 77 #[.pointer (some ⟨T.q a b, 0, none⟩), .slice A nn c] X fun e Y => e = .returned (.tuple #[]) ∧ ChaAt T n (Dg.upL s a b (s.ln a b ++ [m])) Y ∧ Below T.B X Y ∧ FrT X Y := by
 obtain ⟨V, h⟩ := h
 obtain ⟨vs, hs, hvl, hmsg⟩ := h.row a b ha hb hab
 have hq := h.que a b ha hb hab
 refine (qput_of T.B (T.q a b) (V a b) vs A nn c (by rw [hvl]; exact hl) X hq hs (h.bq a b ha hb hab) (h.up a b ha hb hab)).mono ?_
 rintro e Y ⟨rfl, ⟨v', hr', hs', hN⟩, hF⟩
 have hT := hF.tags hq hs (.inr rfl)
 refine ⟨rfl, ChaAt.queue V h ha hb hab hF hr' ⟨vs ++ [.slice A nn c], hs', ?_, fun j u l hj hl => ?_⟩ hN rfl (fun i k hik => if_neg hik), hF.below, hT⟩
 ·show _ = (if a = a ∧ b = b then s.ln a b ++ [m] else s.ln a b).length
  rw [if_pos ⟨rfl, rfl⟩, List.length_append, List.length_append, hvl]
  rfl
 ·have hl : (s.ln a b ++ [m])[j]? = some l := by
   have : (if a = a ∧ b = b then s.ln a b ++ [m] else s.ln a b)[j]? = some l := hl
   rwa [if_pos ⟨rfl, rfl⟩] at this
  by_cases hj0 : j < vs.length
  ·rw [List.getElem?_append_left hj0] at hj
   rw [List.getElem?_append_left (by omega)] at hl
   exact own_tagT (hmsg j u l hj hl) hT
  ·rw [List.getElem?_append_right (by omega)] at hj
   rw [List.getElem?_append_right (by omega), ← hvl] at hl
   cases hd : j - vs.length with
   | zero =>
    rw [hd] at hj hl
    cases hj
    cases hl
    exact own_tagT hm hT
   | succ d =>
    rw [hd] at hj
    simp at hj
theorem linetake_no {T : CC} {n : Nat} {s : Dg.Ch} (X : World) (h : ChaAt T n s X) {a b : Nat} (ha : a < n) (hb : b < n) (hab : a ≠ b) (hl : s.ln a b = []) :
  Calls Tryz.prog 78 #[.pointer (some ⟨T.q a b, 0, none⟩)] X fun e Y => e = .returned (.tuple #[.slice none 0 0, .bool false]) ∧ Y = X := by
 obtain ⟨V, h⟩ := h
 obtain ⟨vs, hs, hvl, _⟩ := h.row a b ha hb hab
 rw [hl] at hvl
 obtain rfl : vs = [] := List.eq_nil_of_length_eq_zero hvl
 exact qtake_no (T.q a b) (V a b) X (h.que a b ha hb hab) hs
theorem linetake_of {T : CC} {n : Nat} {s : Dg.Ch} (X : World) (h : ChaAt T n s X) {a b : Nat} (ha : a < n) (hb : b < n) (hab : a ≠ b) (m : List Dg.Cl) (r : List (List Dg.Cl)) (hl : s.ln a b = m :: r) (hn : r.length ≤ 1000000) :
  Calls Tryz.prog 78 #[.pointer (some ⟨T.q a b, 0, none⟩)] X fun e Y => (∃ A c, e = .returned (.tuple #[.slice A m.length c, .bool true]) ∧ Own1 clL 55 Y 0 (.slice A m.length c) m) ∧ ChaAt T n (Dg.upL s a b r) Y ∧ Below T.B X Y ∧ FrT X Y := by
 obtain ⟨V, h⟩ := h
 obtain ⟨vs, hs, hvl, hmsg⟩ := h.row a b ha hb hab
 rw [hl] at hvl hmsg
 cases vs with
 | nil => cases hvl
 | cons x vs =>
  have hx := hmsg 0 x m rfl rfl
  obtain ⟨A, c, hxe, _, _⟩ := hx.row
  subst hxe
  have hq := h.que a b ha hb hab
  have hvl' : vs.length = r.length := by simpa using hvl
  refine (qtake_of T.B (T.q a b) (V a b) (.slice A m.length c) vs rfl (by omega) X hq hs (h.bq a b ha hb hab)).mono ?_
  rintro e Y ⟨rfl, ⟨v', hr', hs', hO⟩, hF⟩
  have hT := hF.tags hq hs (.inl rfl)
  have hF' : FrQ T.B (T.q a b) (V a b).ownBlock X Y := ⟨hF.below, fun k hk h1 _ => hF.keep k hk h1 (by simp)⟩
  refine ⟨⟨A, c, rfl, own_tagT hx hT⟩, ChaAt.queue V h ha hb hab hF' hr' ⟨vs, hs', ?_, fun j u l hj hl => ?_⟩ (.inl hO) rfl (fun i k hik => if_neg hik), hF.below, hT⟩
  ·show _ = (if a = a ∧ b = b then r else s.ln a b).length
   rw [if_pos ⟨rfl, rfl⟩, hvl']
  ·have hl : r[j]? = some l := by
    have : (if a = a ∧ b = b then r else s.ln a b)[j]? = some l := hl
    rwa [if_pos ⟨rfl, rfl⟩] at this
   exact own_tagT (hmsg (j + 1) u l hj hl) hT
theorem is_yes (cp sb n cap : Nat) (lbv : Value) (X : World) (hr : X.heap[cp]? = some (.cells #[.slice (some ⟨sb, 0, none⟩) n cap, lbv] 107 (0, 0))) {i : Nat} (hi : i < n) :
  Calls Tryz.prog 46 #[.pointer (some ⟨cp, 0, none⟩), .int .i64 (i : Int)] X fun e Y => e = .returned (.bool true) ∧ Y = X := by
 have c0 : X.cell? ⟨cp, 0, none⟩ = some (.slice (some ⟨sb, 0, none⟩) n cap) := cell_of_row _ _ 0 _ _ _ hr
 have i0 : (0 : Int) ≤ (i : Int) := by omega
 have i1 : (i : Int) < (n : Int) := by omega
 clear hr
 go_enter func46, ntmps46
 go_wp2
 go_ret
 exact ⟨rfl, rfl⟩
def PgsOk (n : Nat) (s : Dg.Ch) : Prop := ∀ i, i < n → (∀ c ∈ s.pg i, Dg.clOk c = true) ∧ (s.pg i).length ≤ 100000
theorem view_of {T : CC} {n : Nat} {s : Dg.Ch} (X : World) (h : ChaAt T n s X) (hp : PgsOk n s) {i : Nat} (hi : i < n) :
  Calls Tryz.prog 23 #[.pointer (some ⟨T.cp, 0, none⟩), .int .i64 (i : Int)] X fun e Y => (∃ v, e = .returned v ∧ Own1 clL 55 Y X.heap.size v (Dg.listC (s.pg i))) ∧ Below X.heap.size X Y := by
 obtain ⟨V, h⟩ := h
 have c0 : X.cell? ⟨T.cp, 0, none⟩ = some (.slice (some ⟨T.sb, 0, none⟩) n T.cap) := cell_of_row _ _ 0 _ _ _ h.rc
 have c1 := (seat_cells h.rs hi).1
 have i0 : (0 : Int) ≤ (i : Int) := by omega
 have i1 : (i : Int) < (n : Int) := by omega
 have HS := hide h; have HP := hide hp
 clear h hp
 go_enter func23, ntmps23
 go_wp2_with fail
 refine (is_yes T.cp T.sb n T.cap _ X HS.out.rc hi).mono ?_
 rintro e Y ⟨rfl, rfl⟩
 go_wp2_with fail
 refine (pageList_of (T.pb i) (T.mp i) (s.pg i) (HP.out i hi).1 (HP.out i hi).2 Y (HS.out.pages i hi)).mono ?_
 rintro e Z ⟨⟨v, rfl, hv⟩, hb⟩
 have HV := hide hv; have HB := hide hb
 clear hv hb c0 c1
 go_wp2
 go_ret
 exact ⟨⟨v, rfl, HV.out⟩, HB.out⟩
theorem ChaS.top {T : CC} {n : Nat} {s : Dg.Ch} {V : Nat → Nat → Value} {X : World} (h : ChaS T n s V X) {a b : Nat} (ha : a < n) (hb : b < n) (hab : a ≠ b) : T.B ≤ X.heap.size := Nat.le_of_lt (Nat.lt_of_le_of_lt (h.bq a b ha hb hab) (lt_of_block (h.que a b ha hb hab)))
attribute [-go_sem] Instr.storeAt in
theorem again_ne {T : CC} {n : Nat} {s : Dg.Ch} (X : World) (h : ChaAt T n s X) (hp : PgsOk n s) {a b : Nat} (ha : a < n) (hb : b < n) (hab : a ≠ b) (hlen : (s.ln a b).length ≤ 1000000) :
  Calls Tryz.prog 44 #[.pointer (some ⟨T.cp, 0, none⟩), .int .i64 (a : Int), .int .i64 (b : Int)] X fun e Y => e = .returned (.int .i64 0) ∧ ChaAt T n (Dg.againC s a b) Y ∧ Below T.B X Y := by
 have hmx := hmxQ
 have hn4 := h.n4
 have ha4 : a < 4 := by omega
 have hb4 : b < 4 := by omega
 obtain ⟨V, h⟩ := h
 have i0 : (0 : Int) ≤ (a : Int) := by omega
 have i1 : (a : Int) < (n : Int) := by omega
 have hne : ((a : Int) == (b : Int)) = false := by simp; omega
 have HS := hide h; have HP := hide hp
 clear h hp hn4
 go_enter func44, ntmps44
 go_wp2_with fail
 refine (is_yes T.cp T.sb n T.cap _ X HS.out.rc ha).mono ?_
 rintro e Y ⟨rfl, rfl⟩
 go_wp2_with fail
 refine (is_yes T.cp T.sb n T.cap _ Y HS.out.rc hb).mono ?_
 rintro e Y' ⟨rfl, rfl⟩
 go_upto_region 3 with fail
 refine wp_region_noPanic ?_
 refine wp_region_L (Below Y'.drew.heap.size Y'.drew) 17 hmx ?_
 have hdr := (Below.refl Y'.heap.size Y').drew
 have hsd := HS.out.kept hdr
 have HSK := hide (fun Z (hZ : Below Y'.drew.heap.size Y'.drew Z) => hsd.kept hZ)
 have hH0 := Below.refl Y'.drew.heap.size Y'.drew
 have HTP := hide (HS.out.top ha hb hab)
 have HDR := hide hdr
 clear hdr hsd HS
 generalize Y'.drew = u0 at *
 refine tU 0 20 hH0 rfl ?_
 refine tU 1 20 hH0 rfl ?_
 refine tU 2 20 hH0 rfl ?_
 refine tU 3 20 hH0 rfl ?_ (by intro wS hS; have f0 : wS.cell? ⟨T.cp, 1, none⟩ = some (.map (some T.lb)) := cell_of_row _ _ 1 _ _ _ (HSK.out wS hS).rc; go_simp; (try with_reducible rfl))
 refine tU 4 20 hH0 rfl ?_
 refine tU 5 20 hH0 rfl ?_
 refine tU 6 20 hH0 rfl ?_
 refine tU 7 20 hH0 rfl ?_ (by intro wS hS; have f0 := (HSK.out wS hS).lines.look ha4 hb4 ⟨ha, hb, hab⟩; go_simp; (try with_reducible rfl))
 refine tU 8 20 hH0 rfl ?_
 refine tU 9 20 hH0 rfl ?_
 refine tU 10 20 hH0 rfl ?_
 refine tU 11 20 hH0 rfl ?_ (by intro wS hS; have f0 : wS.cell? ⟨T.cp, 0, none⟩ = some (.slice (some ⟨T.sb, 0, none⟩) n T.cap) := cell_of_row _ _ 0 _ _ _ (HSK.out wS hS).rc; go_simp; (try with_reducible rfl))
 refine tU 12 20 hH0 rfl ?_
 refine tU 13 20 hH0 rfl ?_
 refine tU 14 20 hH0 rfl ?_
 refine tU 15 20 hH0 rfl ?_ (by intro wS hS; have f0 := (seat_cells (HSK.out wS hS).rs ha).1; go_simp; (try with_reducible rfl))
 refine oY 16 fun K hK => ?_
 go_simp
 refine (pageList_of (T.pb a) (T.mp a) (s.pg a) (HP.out a ha).1 (HP.out a ha).2 u0 ((HSK.out _ hH0).pages a ha)).mono ?_
 rintro e u1 ⟨⟨v, rfl, hv⟩, hb1⟩
 have hH1 := hH0.trans (hb1.mono hH0.size)
 have HV := hide hv; have HB1 := hide hb1
 refine hK.out _ _ (Or.inr hH1) ?_
 clear hK K hv hb1
 try simp only [Act.put, pu]
 refine oY 17 fun K hK => ?_
 obtain ⟨A9, c9, hv9, _, _⟩ := HV.out.row
 obtain ⟨n9, hn9⟩ : ∃ n9, (Dg.listC (s.pg a)).length = n9 := ⟨_, rfl⟩
 rw [hn9] at hv9
 subst hv9
 go_simp
 refine (lineput_of u1 ⟨V, HSK.out u1 hH1⟩ ha hb hab (Dg.listC (s.pg a)) A9 n9 c9 (own_weak HV.out (Nat.zero_le _)) hlen).mono ?_
 rintro e u2 ⟨rfl, hch, hb2, hT2⟩
 have HCH := hide hch; have HB2 := hide hb2
 refine hK.out _ _ (Or.inl rfl) ?_
 clear hK K hch hb2 hT2
 try simp only [Act.put, pu]
 refine dnY ?_
 have HBZ := hide ((HDR.out.mono HTP.out).trans ((HB1.out.mono (Nat.le_trans HTP.out HDR.out.size)).trans HB2.out))
 have hag : Dg.againC s a b = Dg.upL s a b (s.ln a b ++ [Dg.listC (s.pg a)]) := if_neg hab
 have HAG := hide hag
 clear hag
 go_wp2
 go_ret
 exact ⟨rfl, by rw [HAG.out]; exact HCH.out, HBZ.out⟩
theorem again_eq {T : CC} {n : Nat} {s : Dg.Ch} (X : World) (h : ChaAt T n s X) {a : Nat} (ha : a < n) :
  Calls Tryz.prog 44 #[.pointer (some ⟨T.cp, 0, none⟩), .int .i64 (a : Int), .int .i64 (a : Int)] X fun e Y => e = .returned (.int .i64 1) ∧ Y = X := by
 obtain ⟨V, h⟩ := h
 have HS := hide h
 clear h
 go_enter func44, ntmps44
 go_wp2_with fail
 refine (is_yes T.cp T.sb n T.cap _ X HS.out.rc ha).mono ?_
 rintro e Y ⟨rfl, rfl⟩
 go_wp2_with fail
 refine (is_yes T.cp T.sb n T.cap _ Y HS.out.rc ha).mono ?_
 rintro e Y' ⟨rfl, rfl⟩
 go_wp2
 go_ret
 exact ⟨rfl, rfl⟩
theorem again_of {T : CC} {n : Nat} {s : Dg.Ch} (X : World) (h : ChaAt T n s X) (hp : PgsOk n s) {a b : Nat} (ha : a < n) (hb : b < n) (hlen : (s.ln a b).length ≤ 1000000) :
  Calls Tryz.prog 44 #[.pointer (some ⟨T.cp, 0, none⟩), .int .i64 (a : Int), .int .i64 (b : Int)] X fun e Y => (∃ k, e = .returned (.int .i64 k)) ∧ ChaAt T n (Dg.againC s a b) Y ∧ Below T.B X Y := by
 by_cases hab : a = b
 ·subst hab
  refine (again_eq X h ha).mono ?_
  rintro e Y ⟨rfl, rfl⟩
  exact ⟨⟨_, rfl⟩, by rw [show Dg.againC s a a = s from if_pos rfl]; exact h, Below.refl _ _⟩
 ·refine (again_ne X h hp ha hb hab hlen).mono ?_
  rintro e Y ⟨rfl, h1, h2⟩
  exact ⟨⟨_, rfl⟩, h1, h2⟩
theorem withC_twice (s : Dg.Ch) (i : Nat) (p p' : List Dg.Cl) : Dg.withC (Dg.withC s i p) i p' = Dg.withC s i p' := by
 unfold Dg.withC
 congr 1
 funext k
 show (if k = i then p' else if k = i then p else s.pg k) = if k = i then p' else s.pg k
 split <;> rfl
theorem withC_self (s : Dg.Ch) (i : Nat) : Dg.withC s i (s.pg i) = s := by
 have e : Dg.upP s.pg i (s.pg i) = s.pg := by
  funext k
  show (if k = i then s.pg i else s.pg k) = s.pg k
  split
  ·rename_i e; rw [e]
  ·rfl
 unfold Dg.withC
 rw [e]
theorem putC_len (pg : List Dg.Cl) (c : Dg.Cl) : (Dg.putC pg c).1.length ≤ pg.length + 1 := by
 unfold Dg.putC
 split
 ·exact Nat.le_succ _
 ·split
  ·split
   ·show (Dg.setC pg _).length ≤ _
    unfold Dg.setC
    rw [List.length_map]
    exact Nat.le_succ _
   ·exact Nat.le_succ _
  ·split
   ·exact Nat.le_succ _
   ·split
    ·exact Nat.le_succ _
    ·rw [List.length_append]
     exact Nat.le_refl _
theorem recvC_len : ∀ (l pg : List Dg.Cl), (Dg.recvC pg l).length ≤ pg.length + l.length
 | [], pg => Nat.le_refl _
 | c :: l, pg => by
  have h1 := recvC_len l (Dg.putC pg c).1
  have h2 := putC_len pg c
  show (Dg.recvC (Dg.putC pg c).1 l).length ≤ _
  rw [List.length_cons]
  omega
theorem recvC_snoc (pg l : List Dg.Cl) (c : Dg.Cl) : Dg.recvC pg (l ++ [c]) = (Dg.putC (Dg.recvC pg l) c).1 := by
 unfold Dg.recvC
 rw [List.foldl_append]
 rfl
def DelS (T : CC) (n : Nat) (s1 : Dg.Ch) (b : Nat) (pg0 m : List Dg.Cl) (v : Value) (k : Nat) (X Y : World) : Prop := ChaAt T n (Dg.withC s1 b (Dg.recvC pg0 (m.take k))) Y ∧ Own1 clL 55 Y 0 v m ∧ Below T.B X Y
theorem own_map {B : Nat} {v : Value} {l : List Dg.Cl} {X Y : World} (h : Own1 clL 55 X B v l) {p m : Nat} {pg : List Dg.Cl} (hp : PageAt X p m pg) (hg : X.grownBy Y (some m)) : Own1 clL 55 Y B v l := by
 obtain ⟨es, k, hm⟩ := hp.map.obj
 exact World.ownsRow.kept h hg (.inr (own_tag h hm (fun _ _ e => by cases e)))
theorem DelS.step {T : CC} {n : Nat} {s1 : Dg.Ch} {b : Nat} {pg0 m : List Dg.Cl} {v : Value} {k : Nat} {X Y Z W : World} (h : DelS T n s1 b pg0 m v k X Y) (hb : b < n) (hk : k < m.length) (hYZ : Below Y.heap.size Y Z) (hT : T.B ≤ Y.heap.size) (hp : PageAt W (T.pb b) (T.mp b) (Dg.putC (Dg.recvC pg0 (m.take k)) m[k]).1) (hg : Z.grownBy W (some (T.mp b))) : DelS T n s1 b pg0 m v (k + 1) X W := by
 obtain ⟨h1, h2, h3⟩ := h
 have hZ := h1.below hYZ
 have h5 := hZ.page hb hp hg
 rw [withC_twice] at h5
 have e : m.take (k + 1) = m.take k ++ [m[k]] := List.take_succ_eq_append_getElem hk
 refine ⟨by rw [e, recvC_snoc]; exact h5, ?_, ?_⟩
 ·obtain ⟨V, hZ⟩ := hZ
  exact own_map (h2.below hYZ) (hZ.pages b hb) hg
 ·obtain ⟨V, hZ⟩ := hZ
  exact (h3.trans (hYZ.mono hT)).grown hg (Nat.le_trans hT hYZ.size) (fun j hj => by injection hj with hj; rw [← hj]; exact hZ.bm b hb)
theorem ChaAt.top {T : CC} {n : Nat} {s : Dg.Ch} {X : World} (h : ChaAt T n s X) {a : Nat} (ha : a < n) : T.B ≤ X.heap.size := by
 obtain ⟨V, h⟩ := h
 exact Nat.le_of_lt (Nat.lt_of_le_of_lt (h.bm a ha) (h.pages a ha).map.lt)
theorem deliver_eq {T : CC} {n : Nat} {s : Dg.Ch} (X : World) (h : ChaAt T n s X) {a : Nat} (ha : a < n) (lost : Bool) :
  Calls Tryz.prog 45 #[.pointer (some ⟨T.cp, 0, none⟩), .int .i64 (a : Int), .int .i64 (a : Int), .bool lost] X fun e Y => e = .returned (.bool false) ∧ Y = X := by
 obtain ⟨V, h⟩ := h
 have HS := hide h
 clear h
 go_enter func45, ntmps45
 go_wp2_with fail
 refine (is_yes T.cp T.sb n T.cap _ X HS.out.rc ha).mono ?_
 rintro e Y ⟨rfl, rfl⟩
 go_wp2_with fail
 refine (is_yes T.cp T.sb n T.cap _ Y HS.out.rc ha).mono ?_
 rintro e Y' ⟨rfl, rfl⟩
 go_wp2
 go_ret
 exact ⟨rfl, rfl⟩
theorem deliver_no {T : CC} {n : Nat} {s : Dg.Ch} (X : World) (h : ChaAt T n s X) {a b : Nat} (ha : a < n) (hb : b < n) (hab : a ≠ b) (hl : s.ln a b = []) (lost : Bool) :
  Calls Tryz.prog 45 #[.pointer (some ⟨T.cp, 0, none⟩), .int .i64 (a : Int), .int .i64 (b : Int), .bool lost] X fun e Y => e = .returned (.bool false) ∧ Y = X := by
 have hn4 := h.n4
 have ha4 : a < 4 := by omega
 have hb4 : b < 4 := by omega
 have HTK := hide (linetake_no X h ha hb hab hl)
 obtain ⟨V, h⟩ := h
 have hlk := h.lines.look ha4 hb4 ⟨ha, hb, hab⟩
 have hne : ((a : Int) == (b : Int)) = false := by simp; omega
 have c1 : X.cell? ⟨T.cp, 1, none⟩ = some (.map (some T.lb)) := cell_of_row _ _ 1 _ _ _ h.rc
 have HS := hide h
 clear h hn4 hl
 go_enter func45, ntmps45
 go_wp2_with fail
 refine (is_yes T.cp T.sb n T.cap _ X HS.out.rc ha).mono ?_
 rintro e Y ⟨rfl, rfl⟩
 go_wp2_with fail
 refine (is_yes T.cp T.sb n T.cap _ Y HS.out.rc hb).mono ?_
 rintro e Y' ⟨rfl, rfl⟩
 go_wp2_with fail
 refine HTK.out.mono ?_
 rintro e Y'' ⟨rfl, rfl⟩
 clear hlk c1
 go_wp2
 go_ret
 exact ⟨rfl, rfl⟩
attribute [-go_sem] Instr.storeAt in
theorem deliver_yes {T : CC} {n : Nat} {s : Dg.Ch} (X : World) (h : ChaAt T n s X) {a b : Nat} (ha : a < n) (hb : b < n) (hab : a ≠ b) (m : List Dg.Cl) (r : List (List Dg.Cl)) (hl : s.ln a b = m :: r) (hrn : r.length ≤ 1000000) (hpl : (s.pg b).length + m.length ≤ 100000) (lost : Bool) :
  Calls Tryz.prog 45 #[.pointer (some ⟨T.cp, 0, none⟩), .int .i64 (a : Int), .int .i64 (b : Int), .bool lost] X fun e Y => e = .returned (.bool true) ∧ ChaAt T n (if lost = true then Dg.upL s a b r else Dg.withC (Dg.upL s a b r) b (Dg.recvC (s.pg b) m)) Y ∧ Below T.B X Y := by
 have hmx := hmxQ
 have hn4 := h.n4
 have ha4 : a < 4 := by omega
 have hb4 : b < 4 := by omega
 have HTK := hide (linetake_of X h ha hb hab m r hl hrn)
 have HTP := hide (h.top ha)
 obtain ⟨V, h⟩ := h
 have hlk := h.lines.look ha4 hb4 ⟨ha, hb, hab⟩
 have hne : ((a : Int) == (b : Int)) = false := by simp; omega
 have c1 : X.cell? ⟨T.cp, 1, none⟩ = some (.map (some T.lb)) := cell_of_row _ _ 1 _ _ _ h.rc
 have HS := hide h
 have i0 : (0 : Int) ≤ (b : Int) := by omega
 have i1 : (b : Int) < (n : Int) := by omega
 clear h hn4 hl
 go_enter func45, ntmps45
 go_wp2_with fail
 refine (is_yes T.cp T.sb n T.cap _ X HS.out.rc ha).mono ?_
 rintro e Y ⟨rfl, rfl⟩
 go_wp2_with fail
 refine (is_yes T.cp T.sb n T.cap _ Y HS.out.rc hb).mono ?_
 rintro e Y' ⟨rfl, rfl⟩
 go_wp2_with fail
 refine HTK.out.mono ?_
 rintro e Y2 ⟨⟨A, c9, rfl, hom⟩, hch, hbl, _⟩
 clear hlk c1 HTK
 cases lost with
 | true =>
  have HCH := hide hch; have HBL := hide hbl
  clear hch hbl hom
  go_wp2
  go_ret
  exact ⟨rfl, HCH.out, HBL.out⟩
 | false =>
  obtain ⟨nm, hnm⟩ : ∃ nm, m.length = nm := ⟨_, rfl⟩
  rw [hnm] at hom
  have HD0 := hide (⟨by rw [List.take_zero]; show ChaAt T n (Dg.withC (Dg.upL s a b r) b ((Dg.upL s a b r).pg b)) Y2; rw [withC_self]; exact hch, hom, hbl⟩ : DelS T n (Dg.upL s a b r) b (s.pg b) m (.slice A nm c9) 0 Y' Y2)
  have HNM := hide hnm
  have hnb : nm ≤ 100000 := by omega
  rw [hnm]
  rw [hnm] at hpl
  clear hch hbl hom hnm
  go_wp2_with fail
  go_loopw [47] (fun iv wr => ∃ k : Nat, k ≤ nm ∧ iv = .int .i64 k ∧ Hid (DelS T n (Dg.upL s a b r) b (s.pg b) m (.slice A nm c9) k Y' wr)) (fun iv _ => nm - (intOf iv).toNat)
  case atStart => exact ⟨0, Nat.zero_le _, rfl, HD0⟩
  case round =>
   clear HD0
   obtain ⟨k, hk, rfl, HD⟩ := hrel
   by_cases hlt : k < nm
   ·have hkl : k < m.length := by rw [HNM.out]; exact hlt
    obtain ⟨g, cap', sp, hvg, _, _, hgr, _, _, _⟩ := HD.out.2.1.form (by omega)
    injection hvg with hvg hv8 hv9
    subst hvg
    clear hv8 hv9
    obtain ⟨c, hc⟩ : ∃ c, m[k] = c := ⟨_, rfl⟩
    have hrg := range_of hgr (k * 20) (clC c).toList (by rw [← hc]; exact flat_at m sp k hkl)
    have HRG := hide hrg; have HC := hide hc; have HKL := hide hkl
    have hst := store_newcl wr c
    have hb1 := nwB wr (.cells (clC c) 55)
    have r7 := heap_alloc_new wr (.cells (clC c) 55)
    have HB1 := hide hb1; have HR7 := hide r7
    clear hrg hc hgr hb1 r7
    go_upto_region 8 with (with_reducible refine wpList_load_mid rfl 55 (.tmp 49) rfl g (k * 20) rfl _ _ HRG.out underlying55 rfl (by kernel_rfl) ?_)
    clear hst HRG
    generalize wr.alloc (.cells (clC c) 55) = Y0 at *
    obtain ⟨pgk, hpgk⟩ : ∃ pgk, Dg.recvC (s.pg b) (m.take k) = pgk := ⟨_, rfl⟩
    have hpl' : pgk.length ≤ 100000 := by
     rw [← hpgk]
     have h1 := recvC_len (m.take k) (s.pg b)
     rw [List.length_take] at h1
     omega
    obtain ⟨V3, hS3⟩ := HD.out.1.below HB1.out
    have hpgb : (Dg.withC (Dg.upL s a b r) b (Dg.recvC (s.pg b) (m.take k))).pg b = pgk := by rw [← hpgk]; exact Dg.upP_at _ _ _
    have hrl := lt_of_block HR7.out
    refine wp_region_noPanic ?_
    refine wp_region_L (Below Y0.drew.heap.size Y0.drew) 9 hmx ?_
    have hdr := (Below.refl Y0.heap.size Y0).drew
    have hsd := hS3.kept hdr
    have hcd := iNext HR7.out hdr
    have HSK := hide (fun Z (hZ : Below Y0.drew.heap.size Y0.drew Z) => hsd.kept hZ)
    have HCK := hide (fun Z (hZ : Below Y0.drew.heap.size Y0.drew Z) => iNext hcd hZ)
    have hH0 := Below.refl Y0.drew.heap.size Y0.drew
    have hwu : Below wr.heap.size wr Y0.drew := HB1.out.drew
    have HWU := hide hwu; have HPG := hide hpgb; have HPL := hide hpl'; have HPK := hide hpgk
    clear hdr hsd hcd hS3 hwu hpgb hpl' hpgk hrl HB1 HR7
    generalize Y0.drew = u0 at *
    refine tU 0 12 hH0 rfl ?_
    refine tU 1 12 hH0 rfl ?_
    refine tU 2 12 hH0 rfl ?_
    refine tU 3 12 hH0 rfl ?_ (by intro wS hS; have f0 : wS.cell? ⟨T.cp, 0, none⟩ = some (.slice (some ⟨T.sb, 0, none⟩) n T.cap) := cell_of_row _ _ 0 _ _ _ (HSK.out wS hS).rc; go_simp; (try with_reducible rfl))
    refine tU 4 12 hH0 rfl ?_
    refine tU 5 12 hH0 rfl ?_
    refine tU 6 12 hH0 rfl ?_
    refine tU 7 12 hH0 rfl ?_ (by intro wS hS; have f0 := (seat_cells (HSK.out wS hS).rs hb).1; go_simp; (try with_reducible rfl))
    refine tkV 8 12 (.agg (clC c)) rfl (by exact yl_cl (.tmp 12) rfl (by rfl) (by rfl) (fun X hX => HCK.out X hX)) hH0 ?_
    simp only [Act.put, pu]
    refine oY 9 fun K hK => ?_
    go_simp
    refine (pagePut_of (T.pb b) (T.mp b) pgk HPL.out c u0 (by rw [← HPG.out]; exact (HSK.out u0 hH0).pages b hb)).mono ?_
    rintro e u1 ⟨rfl, hpg1, hgr1⟩
    have HP1 := hide hpg1; have HG1 := hide hgr1; have HS1 := hide (HSK.out u0 hH0)
    refine hK.out _ _ (Or.inl rfl) ?_
    clear hK K hpg1 hgr1
    try simp only [Act.put, pu]
    refine dnY ?_
    have hnx := DelS.step HD.out hb HKL.out HWU.out (HD.out.1.top hb) (by rw [HPK.out, HC.out]; exact HP1.out) HG1.out
    have HNX := hide hnx
    clear hnx hH0
    go_wp2_with fail
    go_roundw
    case rel => exact ⟨k + 1, by omega, by go_num, HNX⟩
    case measure => simp [intOf]; omega
   ·obtain rfl : k = nm := by omega
    go_wp2
    go_ret
    refine ⟨rfl, ?_, HD.out.2.2⟩
    have := HD.out.1
    rw [List.take_of_length_le (Nat.le_of_eq HNM.out)] at this
    exact this
theorem deliver_of {T : CC} {n : Nat} {s : Dg.Ch} (X : World) (h : ChaAt T n s X) {a b : Nat} (ha : a < n) (hb : b < n) (hrn : (s.ln a b).length ≤ 1000000) (hpl : ∀ m ∈ s.ln a b, (s.pg b).length + m.length ≤ 100000) (lost : Bool) :
  Calls Tryz.prog 45 #[.pointer (some ⟨T.cp, 0, none⟩), .int .i64 (a : Int), .int .i64 (b : Int), .bool lost] X fun e Y => e = .returned (.bool (decide (¬ (a = b ∨ s.ln a b = [])))) ∧ ChaAt T n (Dg.deliverC s a b lost) Y ∧ Below T.B X Y := by
 by_cases hab : a = b
 ·subst hab
  refine (deliver_eq X h ha lost).mono ?_
  rintro e Y ⟨rfl, rfl⟩
  exact ⟨by simp, by rw [show Dg.deliverC s a a lost = s from if_pos rfl]; exact h, Below.refl _ _⟩
 ·have hd : Dg.deliverC s a b lost = match s.ln a b with
   | [] => s
   | m :: r => if lost then Dg.upL s a b r else Dg.withC (Dg.upL s a b r) b (Dg.recvC (s.pg b) m) := if_neg hab
  cases hl : s.ln a b with
  | nil =>
   rw [hl] at hd
   refine (deliver_no X h ha hb hab hl lost).mono ?_
   rintro e Y ⟨rfl, rfl⟩
   exact ⟨by simp, by rw [hd]; exact h, Below.refl _ _⟩
  | cons m r =>
   rw [hl] at hd hrn
   refine (deliver_yes X h ha hb hab m r hl (Nat.le_of_succ_le hrn) (hpl m (by rw [hl]; exact List.mem_cons_self ..)) lost).mono ?_
   rintro e Y ⟨rfl, h1, h2⟩
   refine ⟨by simp [hab], ?_, h2⟩
   rw [hd]
   exact h1
theorem stamp_run (w : World) (a b a' b' : Int) : (binOp .eql 49 (.agg #[.int .i64 a, .int .i64 b]) (.agg #[.int .i64 a', .int .i64 b'])).run Tryz.prog w = .ok (.bool (sameS ⟨a, b⟩ ⟨a', b'⟩)) w := by
 rw [run_eql_struct, stamp_eqIn 9998]
 rfl
attribute [-go_sem] run_eql_struct in
theorem find1_of (x : Dg.Cl) (bi : Nat) (d : Dg.Sp) (R : Bool) (hR : sameS x.id d = R) (X : World) (hr : X.heap[bi]? = some (.cells #[.int .i64 d.seat, .int .i64 d.count] 49 (0, 0))) :
  Calls Tryz.prog 99 #[.agg (clC x), .pointer (some ⟨bi, 0, none⟩)] X fun e Y => e = .returned (.bool R) ∧ Below X.heap.size X Y := by
 have hbn := nwB X (.cells (clC x) 55)
 have r2 := heap_alloc_new X (.cells (clC x) 55)
 have ri := iNext hr hbn
 have c0 : (X.alloc (.cells (clC x) 55)).cell? ⟨X.heap.size, 0, none⟩ = some (.int .i64 x.id.seat) := cell_of_row _ _ 0 _ _ _ r2
 have c1 : (X.alloc (.cells (clC x) 55)).cell? ⟨X.heap.size, 1, none⟩ = some (.int .i64 x.id.count) := cell_of_row _ _ 1 _ _ _ r2
 have d0 : (X.alloc (.cells (clC x) 55)).cell? ⟨bi, 0, none⟩ = some (.int .i64 d.seat) := cell_of_row _ _ 0 _ _ _ ri
 have d1 : (X.alloc (.cells (clC x) 55)).cell? ⟨bi, 1, none⟩ = some (.int .i64 d.count) := cell_of_row _ _ 1 _ _ _ ri
 have he := stamp_run (X.alloc (.cells (clC x) 55)) x.id.seat x.id.count d.seat d.count
 rw [show sameS ⟨x.id.seat, x.id.count⟩ ⟨d.seat, d.count⟩ = R from hR] at he
 have HB := hide hbn
 clear hR hr hbn r2 ri
 go_enter func99, ntmps99
 go_wp2
 go_ret
 exact ⟨rfl, HB.out⟩
def FndI (l : List Dg.Cl) (d : Dg.Sp) (ix : Int) : Prop := (ix = -1 ∧ Dg.getC l d = none) ∨ ∃ (k : Nat) (hk : k < l.length), ix = (k : Int) ∧ Dg.getC l d = some l[k]
def FndQ (l : List Dg.Cl) (d : Dg.Sp) (X : World) (e : Ending) (Y : World) : Prop := (∃ ix, e = .returned (.int .i64 ix) ∧ FndI l d ix) ∧ Below X.heap.size X Y
theorem fnd_at {l : List Dg.Cl} {d : Dg.Sp} {k : Nat} (hk : k < l.length) (h : sameS l[k].id d = true) (hn : ∀ (j : Nat) (hj : j < l.length), j < k → l[j].id ≠ d) : Dg.getC l d = some l[k] := by
 unfold Dg.getC
 rw [List.find?_eq_some_iff_getElem]
 refine ⟨decide_eq_true ((sameS_iff _ _).1 h), k, hk, rfl, fun j hj => ?_⟩
 rw [Bool.not_eq_true', decide_eq_false_iff_not]
 exact hn j (by omega) hj
theorem fnd_no {l : List Dg.Cl} {d : Dg.Sp} (hn : ∀ (j : Nat) (hj : j < l.length), l[j].id ≠ d) : Dg.getC l d = none := by
 unfold Dg.getC
 rw [List.find?_eq_none]
 intro x hx
 obtain ⟨j, hj, rfl⟩ := List.getElem_of_mem hx
 simpa using hn j hj
theorem ixf_of (v : Value) (l : List Dg.Cl) (B bi : Nat) (d : Dg.Sp) (X : World) (hO : Own1 clL 55 X B v l) (hl : l.length ≤ 1000000) (hr : X.heap[bi]? = some (.cells #[.int .i64 d.seat, .int .i64 d.count] 49 (0, 0))) :
  Calls Tryz.prog 85 #[v, .func (.func 99) #[] #[.pointer (some ⟨bi, 0, none⟩)]] X (FndQ l d X) := by
 obtain ⟨A, c, rfl, _, _⟩ := hO.row
 obtain ⟨n, hn⟩ : ∃ n, l.length = n := ⟨_, rfl⟩
 rw [hn] at hO hl ⊢
 have HO := hide hO; have HN := hide hn; have HR := hide hr
 clear hO hn hr
 go_enter func85, ntmps85
 go_wp2
 go_loopw [8] (fun iv wr => ∃ k : Nat, k ≤ n ∧ iv = .int .i64 k ∧ Hid (Below X.heap.size X wr ∧ ∀ (j : Nat) (hj : j < l.length), j < k → l[j].id ≠ d)) (fun iv _ => n - (intOf iv).toNat)
 case atStart => exact ⟨0, Nat.zero_le _, rfl, hide ⟨Below.refl _ _, fun _ _ h => absurd h (Nat.not_lt_zero _)⟩⟩
 case round =>
  obtain ⟨k, hk, rfl, HK⟩ := hrel
  by_cases hlt : k < n
  ·have hkl : k < l.length := by rw [HN.out]; exact hlt
   have hOw := HO.out.below HK.out.1
   obtain ⟨g, cap', sp, hvg, _, _, hgr, _, _, _⟩ := hOw.form (by omega)
   injection hvg with hvg hv8 hv9
   subst hvg
   clear hv8 hv9
   obtain ⟨x, hx⟩ : ∃ x, l[k] = x := ⟨_, rfl⟩
   have hrg := range_of hgr (k * 20) (clC x).toList (by rw [← hx]; exact flat_at l sp k hkl)
   have hrw := iNext HR.out HK.out.1
   have HRG := hide hrg; have HX := hide hx; have HRW := hide hrw; have HKL := hide hkl
   clear hrg hx hOw hgr hrw
   go_wp2_with (with_reducible refine wpList_load_mid rfl 55 (.tmp 14) rfl g (k * 20) rfl _ _ HRG.out underlying55 rfl (by kernel_rfl) ?_)
   cases hR : sameS x.id d with
   | true =>
    refine (find1_of x bi d true hR wr HRW.out).mono ?_
    rintro e Y ⟨rfl, hb⟩
    have HB := hide (HK.out.1.trans (hb.mono HK.out.1.size))
    have HT := hide hR
    clear hb hR HRG
    go_wp2
    go_ret
    exact ⟨⟨_, rfl, .inr ⟨k, HKL.out, rfl, fnd_at HKL.out (by rw [HX.out]; exact HT.out) HK.out.2⟩⟩, HB.out⟩
   | false =>
    refine (find1_of x bi d false hR wr HRW.out).mono ?_
    rintro e Y ⟨rfl, hb⟩
    have HB := hide (⟨HK.out.1.trans (hb.mono HK.out.1.size), fun j hj hjk => by
     by_cases e : j = k
     ·subst e
      rw [HX.out]
      intro e2
      rw [(sameS_iff _ _).2 e2] at hR
      cases hR
     ·exact HK.out.2 j hj (by omega)⟩ : Below X.heap.size X Y ∧ ∀ (j : Nat) (hj : j < l.length), j < k + 1 → l[j].id ≠ d)
    clear hb hR HRG
    go_wp2_with fail
    go_roundw
    case rel => exact ⟨k + 1, by omega, by go_num, HB⟩
    case measure => simp [intOf]; omega
  ·obtain rfl : k = n := by omega
   go_wp2
   go_ret
   exact ⟨⟨_, rfl, .inl ⟨rfl, fnd_no fun j hj => HK.out.2 j hj (by rw [← HN.out]; exact hj)⟩⟩, HK.out.1⟩
attribute [-go_sem] Instr.storeAt in
theorem find_of (v : Value) (l : List Dg.Cl) (B : Nat) (a b : Int) (X : World) (hO : Own1 clL 55 X B v l) (hl : l.length ≤ 1000000) (q : Option Dg.Cl) (hq : Dg.getC l ⟨a, b⟩ = q) :
  Calls Tryz.prog 75 #[v, .agg #[.int .i64 a, .int .i64 b]] X fun e Y => e = .returned (.tuple #[.agg (clC (q.getD Dg.Cl0)), .bool q.isSome]) ∧ Below X.heap.size X Y := by
 obtain ⟨A, c, rfl, _, _⟩ := hO.row
 obtain ⟨n, hn⟩ : ∃ n, l.length = n := ⟨_, rfl⟩
 rw [hn] at hO hl ⊢
 obtain ⟨r3, r4, hb, hs⟩ := iAlloc2 X (.cells #[.int .i64 a, .int .i64 b] 49) (.cells (clC Dg.Cl0) 55)
 have hO2 := hO.below hb
 have HIX := hide (ixf_of (.slice A n c) l B X.heap.size ⟨a, b⟩ _ hO2 (by rw [hn]; exact hl) r3)
 have HO := hide hO; have HN := hide hn; have HB := hide hb; have HR4 := hide r4; have HO2 := hide hO2; have HQ := hide hq
 clear hO hn hb r3 r4 hO2 hq hs
 go_enter func75, ntmps75
 go_wp2_with fail
 refine HIX.out.mono ?_
 rintro e Y ⟨⟨ix, rfl, hix⟩, hb2⟩
 have r4 := iNext HR4.out hb2
 have hB2 := bnext HB.out hb2
 have HB2 := hide hB2; have HOY := hide (HO2.out.below hb2)
 clear hb2 hB2 HIX
 rcases hix with ⟨rfl, hg⟩ | ⟨k, hk, rfl, hg⟩
 ·have hqn : q = none := HQ.out.symm.trans hg
  subst hqn
  have hst : (Instr.storeAt 55 (.pointer (some ⟨X.heap.size + 1, 0, none⟩)) (.agg Rq17)).run Tryz.prog Y = .ok () (Y.setRow (X.heap.size + 1) (clC Dg.Cl0)) := store_cl (x := Dg.Cl0) (y := Dg.Cl0) r4
  have hg3 := setRow_heap Y (X.heap.size + 1) _ (clC Dg.Cl0) _ _ r4
  have HB3 := hide (below_setRow HB2.out (g := X.heap.size + 1) (Nat.le_succ _) (clC Dg.Cl0))
  have HG3 := hide hg3
  clear hg3 r4 hg
  go_wp2
  refine bodyPost_ret (results_c8 results75 _ _ (X.heap.size + 1) 55 (clC Dg.Cl0) (0, 0) _ rfl HG3.out underlying55 (by kernel_rfl)) rfl ⟨rfl, HB3.out⟩
 ·obtain ⟨x, hx⟩ : ∃ x, l[k] = x := ⟨_, rfl⟩
  have hqs : q = some x := HQ.out.symm.trans (hg.trans (congrArg some hx))
  subst hqs
  have hkn : k < n := by rw [← HN.out]; exact hk
  obtain ⟨g, cap', sp, hvg, _, _, hgr, _, _, _⟩ := HOY.out.form (by omega)
  injection hvg with hvg hv8 hv9
  subst hvg
  clear hv8 hv9
  have hrg := range_of hgr (k * 20) (clC x).toList (by rw [← hx]; exact flat_at l sp k hk)
  have hst := store_cl (y := x) (show Y.heap[X.heap.size + 1]? = some (.cells (clC Dg.Cl0) 55 (0, 0)) from r4)
  have hg3 := setRow_heap Y (X.heap.size + 1) _ (clC x) _ _ r4
  have HB3 := hide (below_setRow HB2.out (g := X.heap.size + 1) (Nat.le_succ _) (clC x))
  have HG3 := hide hg3; have HRG := hide hrg
  clear hg3 r4 hg hrg hgr hx hk
  go_wp2_with (with_reducible refine wpList_load_mid rfl 55 (.tmp 15) rfl g (k * 20) rfl _ _ HRG.out underlying55 rfl (by kernel_rfl) ?_)
  refine bodyPost_ret (results_c8 results75 _ _ (X.heap.size + 1) 55 (clC x) (0, 0) _ rfl HG3.out underlying55 (by kernel_rfl)) rfl ⟨rfl, HB3.out⟩
abbrev OthN (n a : Nat) : Type := { x : Nat // x < n ∧ x ≠ a }
def othE (T : CC) (a : Nat) {n : Nat} (x : OthN n a) : Array Value := #[.pointer (some ⟨T.q a x.1, 0, none⟩)]
def othR (n a : Nat) : List Nat := (List.range n).filter fun k => decide (k ≠ a)
def FrD (D : Nat) (X Y : World) : Prop := ∀ (k : Nat) (o : Obj), k < D → X.heap[k]? = some o → (∀ cs fr, o ≠ .cells cs 30 fr) → (∀ cs fr, o ≠ .cells cs 113 fr) → Y.heap[k]? = some o
theorem FrD.trans {D : Nat} {X Y Z : World} (h : FrD D X Y) (k : FrD D Y Z) : FrD D X Z := fun i o hi ho h1 h2 => k i o hi (h i o hi ho h1 h2) h1 h2
theorem FrT.low {D : Nat} {X Y : World} (h : FrT X Y) : FrD D X Y := fun k o _ ho h1 h2 => h k o ho h1 h2
structure OtS (T : CC) (n a b1 b2 D : Nat) (X : World) : Prop where
 r1 : X.heap[b1]? = some (.cells #[.pointer (some ⟨T.cp, 0, none⟩)] 67 (0, 0))
 r2 : X.heap[b2]? = some (.cells #[.int .i64 (a : Int)] 3 (0, 0))
 rc : X.heap[T.cp]? = some (.cells #[.slice (some ⟨T.sb, 0, none⟩) n T.cap, .map (some T.lb)] 107 (0, 0))
 rs : Own1 setL 109 X T.B (.slice (some ⟨T.sb, 0, none⟩) n T.cap) (seatsL T.pb n)
 lines : LinesAt X T.lb (fun i k => i < n ∧ k < n ∧ i ≠ k) T.q 1000
 d1 : b1 < D
 d2 : b2 < D
 dc : T.cp < D
 ds : T.sb < D
 dl : T.lb < D
theorem OtS.keep {T : CC} {n a b1 b2 D : Nat} {X Y : World} (h : OtS T n a b1 b2 D X) (hF : FrD D X Y) : OtS T n a b1 b2 D Y := by
 obtain ⟨es, k, hm⟩ := h.lines.obj
 refine ⟨hF b1 _ h.d1 h.r1 (fun _ _ e => by injection e with _ e _; exact absurd e (by decide)) (fun _ _ e => by injection e with _ e _; exact absurd e (by decide)), hF b2 _ h.d2 h.r2 (fun _ _ e => by injection e with _ e _; exact absurd e (by decide)) (fun _ _ e => by injection e with _ e _; exact absurd e (by decide)),
  hF T.cp _ h.dc h.rc (fun _ _ e => by injection e with _ e _; exact absurd e (by decide)) (fun _ _ e => by injection e with _ e _; exact absurd e (by decide)), own_kept h.rs fun k hk => ?_, h.lines.same ((hF T.lb _ h.dl hm (fun _ _ e => by cases e) (fun _ _ e => by cases e)).trans hm.symm), h.d1, h.d2, h.dc, h.ds, h.dl⟩
 injection hk with hk
 subst hk
 rcases h.rs.2 with ⟨e, _⟩ | ⟨g, cap, cur, e, _, hgb, _⟩
 ·cases e
 ·injection e with e
  injection e with e
  injection e with e
  have e : T.sb = g := e
  show Y.heap[T.sb]? = X.heap[T.sb]?
  rw [e]
  exact (hF g _ (by rw [← e]; exact h.ds) hgb (fun _ _ e => by injection e with _ e _; exact absurd e (by decide)) (fun _ _ e => by injection e with _ e _; exact absurd e (by decide))).trans hgb.symm
theorem OtS.below {T : CC} {n a b1 b2 D : Nat} {X Y : World} (h : OtS T n a b1 b2 D X) (hb : Below X.heap.size X Y) : OtS T n a b1 b2 D Y :=
 h.keep fun k o _ ho _ _ => (hb.block k (lt_of_block ho)).trans ho
theorem othR_snoc (a i : Nat) : othR (i + 1) a = othR i a ++ (if i = a then [] else [i]) := by
 unfold othR
 rw [List.range_succ, List.filter_append]
 congr 1
 by_cases e : i = a <;> simp [e]
theorem others_of (cp a : Nat) (w : World) : Calls Tryz.prog 100 #[.pointer (some ⟨cp, 0, none⟩), .int .i64 (a : Int)] w fun e w' => e = .returned (.func (.func 118) #[] #[.pointer (some ⟨w.heap.size, 0, none⟩), .pointer (some ⟨w.heap.size + 1, 0, none⟩)]) ∧ w' = (w.alloc (.cells #[.pointer (some ⟨cp, 0, none⟩)] 67)).alloc (.cells #[.int .i64 (a : Int)] 3) := by
 have hmf : ∀ (fn : Fn) (first cap : Array Value) (w : World), (Instr.makeFunc fn first cap).run Tryz.prog w = .ok (.func fn first cap) w := fun _ _ _ _ => rfl
 go_enter func100, ntmps100
 go_wp2
 go_ret
 exact ⟨rfl, rfl⟩
attribute [-go_sem] Instr.storeAt in
theorem others1_in (n : Nat) (hn : 2 ≤ n) (l : Nat) (T : CC) (nn a b1 b2 D : Nat) (hn4 : nn ≤ 4) (ha : a < nn) (J Jx : List (OthN nn a) → World → Prop)
  (hY : ∀ pre x W, J pre W → pre.length < nn → YieldAt Fence.wide (n - 1) Tryz.prog l (othE T a x) W fun e W' =>
   (e = .returned (.bool true) ∧ J (pre ++ [x]) W' ∧ FrD D W W') ∨ (e = .returned (.bool false) ∧ Jx (pre ++ [x]) W'))
  (W : World) (hJ : AbidesFrom W.heap.size J) (hO : OtS T nn a b1 b2 D W) (h0 : J [] W) :
  CallsIn Fence.wide n Tryz.prog 118 #[.func (.yield l) #[] #[], .pointer (some ⟨b1, 0, none⟩), .pointer (some ⟨b2, 0, none⟩)] W fun e W' => (∃ v, e = .returned v) ∧
   ((∃ ss : List (OthN nn a), ss.map (fun x => x.1) = othR nn a ∧ J ss W') ∨ (∃ pre : List (OthN nn a), True ∧ Jx pre W')) := by
 have hmx := hmxQ
 have c1 := iCells0 hO.r1
 have c2 : W.cell? ⟨T.cp, 0, none⟩ = some (.slice (some ⟨T.sb, 0, none⟩) nn T.cap) := cell_of_row _ _ 0 _ _ _ hO.rc
 have ha4 : a < 4 := by omega
 have HO := hide hO; have H0 := hide h0; have HY := hide hY; have HJ := hide hJ
 clear hO h0 hY hJ
 refine callsIn_of_wp func118 rfl trivial ?_ rfl
 simp only [ntmps118, List.size_toArray, List.length_cons, List.length_nil, Nat.reduceAdd, Nat.reduceSub, Array.replicate_succ, Array.replicate_zero, List.push_toArray, List.append_toArray, List.nil_append, List.cons_append]
 gi_wp2_with fail
 clear c1 c2
 gi_loopw [11] (fun iv wr => ∃ (i : Nat) (ss : List (OthN nn a)), i ≤ nn ∧ iv = .int .i64 i ∧ Hid (OtS T nn a b1 b2 D wr ∧ ss.map (fun x => x.1) = othR i a ∧ ss.length ≤ i ∧ J ss wr)) (fun iv _ => nn - (intOf iv).toNat)
 case atStart => exact ⟨0, [], Nat.zero_le _, rfl, hide ⟨HO.out, rfl, Nat.le_refl _, H0.out⟩⟩
 case round =>
  obtain ⟨i, ss, hi, rfl, HI⟩ := hrel
  by_cases hlt : i < nn
  ·have hi4 : i < 4 := by omega
   obtain ⟨hOw, hss, hsl, hJw⟩ := HI.out
   have hsc := seat_cells hOw.rs hlt
   have s0 := hsc.1; have s1 := hsc.2
   have hst := store_new (ty := 109) (T := 109) wr #[.pointer none, .int .i64 0] #[.pointer (some ⟨T.pb i, 0, none⟩), .int .i64 (i : Int)] (by kernel_rfl) rfl (by simp [Value.oneCell'])
   have hb1 := nwB wr (.cells #[.pointer (some ⟨T.pb i, 0, none⟩), .int .i64 (i : Int)] 109)
   have r5 := heap_alloc_new wr (.cells #[.pointer (some ⟨T.pb i, 0, none⟩), .int .i64 (i : Int)] 109)
   have hJ1 := HJ.out ss wr (wr.alloc (.cells #[.pointer (some ⟨T.pb i, 0, none⟩), .int .i64 (i : Int)] 109)) none hJw (World.grownBy_alloc wr _ none) (fun r e => by cases e)
   have hO1 := hOw.below hb1
   have HO1 := hide hO1; have HJ1 := hide hJ1; have HSS := hide hss; have HSL := hide hsl; have HR5 := hide r5; have HB1 := hide hb1
   clear hOw hss hsl hJw hsc hb1 r5 hJ1 hO1 HI
   gi_wp2_with fail
   clear hst s0 s1
   generalize wr.alloc (.cells #[.pointer (some ⟨T.pb i, 0, none⟩), .int .i64 (i : Int)] 109) = Y0 at *
   by_cases hne : i = a
   ·have hbn : ((i : Int) != (a : Int)) = false := by simp [hne]
    have HNE := hide hne
    clear hne
    refine wpIn_region_N (Below Y0.drew.heap.size Y0.drew) 18 hmx ?_
    have hdr := (Below.refl Y0.heap.size Y0).drew
    have hJd : J ss Y0.drew := HJ.out ss Y0 Y0.drew none HJ1.out ⟨rfl, rfl, rfl, Nat.le_refl _, fun _ _ _ => rfl⟩ (fun r e => by cases e)
    have hOd := HO1.out.below hdr
    have hTd := iNext HR5.out hdr
    have HSK := hide (fun Z (hZ : Below Y0.drew.heap.size Y0.drew Z) => hOd.below hZ)
    have HTK := hide (fun Z (hZ : Below Y0.drew.heap.size Y0.drew Z) => iNext hTd hZ)
    have hH0 := Below.refl Y0.drew.heap.size Y0.drew
    have HJD := hide hJd
    clear hdr hJd hOd hTd HO1 HJ1 HR5 HB1
    generalize Y0.drew = u0 at *
    generalize wr.heap.size = bt at *
    refine tN 0 20 ?_ rfl rfl ?_ hH0 ?_
    rotate_left
    ·intro wS hS; go_simp; (try with_reducible rfl)
    simp only [Act.put, pu]
    refine tN 1 20 ?_ rfl rfl ?_ hH0 ?_
    rotate_left
    ·intro wS hS; have f0 : wS.cell? ⟨bt, 1, none⟩ = some (.int .i64 (i : Int)) := cell_of_row _ _ 1 _ _ _ (HTK.out wS hS); go_simp; (try with_reducible rfl)
    simp only [Act.put, pu]
    refine tN 2 20 ?_ rfl rfl ?_ hH0 ?_
    rotate_left
    ·intro wS hS; have f0 : wS.cell? ⟨b2, 0, none⟩ = some (.int .i64 (a : Int)) := iCells0 (HSK.out wS hS).r2; go_simp; (try with_reducible rfl)
    simp only [Act.put, pu]
    refine tN 3 20 ?_ rfl rfl ?_ hH0 ?_
    rotate_left
    ·intro wS hS; go_simp; (try with_reducible rfl)
    simp only [Act.put, pu]
    refine tN 4 20 ?_ rfl rfl ?_ hH0 ?_
    rotate_left
    ·intro wS hS; go_simp; (try with_reducible rfl)
    simp only [Act.put, pu]
    refine tM 5 20 rfl rfl hH0 ?_
    simp only [Act.put, pu]
    refine tM 6 20 rfl rfl hH0 ?_
    simp only [Act.put, pu]
    refine tM 7 20 rfl rfl hH0 ?_
    simp only [Act.put, pu]
    refine tM 8 20 rfl rfl hH0 ?_
    simp only [Act.put, pu]
    refine tM 9 20 rfl rfl hH0 ?_
    simp only [Act.put, pu]
    refine tM 10 20 rfl rfl hH0 ?_
    simp only [Act.put, pu]
    refine tM 11 20 rfl rfl hH0 ?_
    simp only [Act.put, pu]
    refine tM 12 20 rfl rfl hH0 ?_
    simp only [Act.put, pu]
    refine tM 13 20 rfl rfl hH0 ?_
    simp only [Act.put, pu]
    refine tM 14 20 rfl rfl hH0 ?_
    simp only [Act.put, pu]
    refine tM 15 20 rfl rfl hH0 ?_
    simp only [Act.put, pu]
    refine tM 16 20 rfl rfl hH0 ?_
    simp only [Act.put, pu]
    refine tN 17 20 ?_ rfl rfl ?_ hH0 ?_
    rotate_left
    ·intro wS hS; go_simp; (try with_reducible rfl)
    simp only [Act.put, pu]
    refine wpAnyN_done (by decide +kernel) ?_ _
    gi_wp2
    go_roundw
    case rel => exact ⟨i + 1, ss, by omega, by go_num, hide ⟨HSK.out _ hH0, by rw [HSS.out, othR_snoc, if_pos HNE.out, List.append_nil], Nat.le_succ_of_le HSL.out, HJD.out⟩⟩
    case measure => simp [intOf]; omega
   ·have hbn : ((i : Int) != (a : Int)) = true := by simp; omega
    refine wpIn_region_N (Below Y0.drew.heap.size Y0.drew) 15 hmx ?_
    have hdr := (Below.refl Y0.heap.size Y0).drew
    have hJd : J ss Y0.drew := HJ.out ss Y0 Y0.drew none HJ1.out ⟨rfl, rfl, rfl, Nat.le_refl _, fun _ _ _ => rfl⟩ (fun r e => by cases e)
    have hOd := HO1.out.below hdr
    have hTd := iNext HR5.out hdr
    have HSK := hide (fun Z (hZ : Below Y0.drew.heap.size Y0.drew Z) => hOd.below hZ)
    have HTK := hide (fun Z (hZ : Below Y0.drew.heap.size Y0.drew Z) => iNext hTd hZ)
    have hH0 := Below.refl Y0.drew.heap.size Y0.drew
    have HJD := hide hJd
    clear hdr hJd hOd hTd HO1 HJ1 HR5 HB1
    generalize Y0.drew = u0 at *
    generalize wr.heap.size = bt at *
    refine tN 0 20 ?_ rfl rfl ?_ hH0 ?_
    rotate_left
    ·intro wS hS; go_simp; (try with_reducible rfl)
    simp only [Act.put, pu]
    refine tN 1 20 ?_ rfl rfl ?_ hH0 ?_
    rotate_left
    ·intro wS hS; have f0 : wS.cell? ⟨bt, 1, none⟩ = some (.int .i64 (i : Int)) := cell_of_row _ _ 1 _ _ _ (HTK.out wS hS); go_simp; (try with_reducible rfl)
    simp only [Act.put, pu]
    refine tN 2 20 ?_ rfl rfl ?_ hH0 ?_
    rotate_left
    ·intro wS hS; have f0 : wS.cell? ⟨b2, 0, none⟩ = some (.int .i64 (a : Int)) := iCells0 (HSK.out wS hS).r2; go_simp; (try with_reducible rfl)
    simp only [Act.put, pu]
    refine tN 3 20 ?_ rfl rfl ?_ hH0 ?_
    rotate_left
    ·intro wS hS; go_simp; (try with_reducible rfl)
    simp only [Act.put, pu]
    refine tN 4 20 ?_ rfl rfl ?_ hH0 ?_
    rotate_left
    ·intro wS hS; go_simp; (try with_reducible rfl)
    simp only [Act.put, pu]
    refine tN 5 20 ?_ rfl rfl ?_ hH0 ?_
    rotate_left
    ·intro wS hS; go_simp; (try with_reducible rfl)
    simp only [Act.put, pu]
    refine tN 6 20 ?_ rfl rfl ?_ hH0 ?_
    rotate_left
    ·intro wS hS; have f0 : wS.cell? ⟨b1, 0, none⟩ = some (.pointer (some ⟨T.cp, 0, none⟩)) := iCells0 (HSK.out wS hS).r1; go_simp; (try with_reducible rfl)
    simp only [Act.put, pu]
    refine tN 7 20 ?_ rfl rfl ?_ hH0 ?_
    rotate_left
    ·intro wS hS; go_simp; (try with_reducible rfl)
    simp only [Act.put, pu]
    refine tN 8 20 ?_ rfl rfl ?_ hH0 ?_
    rotate_left
    ·intro wS hS; go_simp; (try with_reducible rfl)
    simp only [Act.put, pu]
    refine tN 9 20 ?_ rfl rfl ?_ hH0 ?_
    rotate_left
    ·intro wS hS; have f0 : wS.cell? ⟨T.cp, 1, none⟩ = some (.map (some T.lb)) := cell_of_row _ _ 1 _ _ _ (HSK.out wS hS).rc; go_simp; (try with_reducible rfl)
    simp only [Act.put, pu]
    refine tN 10 20 ?_ rfl rfl ?_ hH0 ?_
    rotate_left
    ·intro wS hS; have f0 : wS.cell? ⟨b2, 0, none⟩ = some (.int .i64 (a : Int)) := iCells0 (HSK.out wS hS).r2; go_simp; (try with_reducible rfl)
    simp only [Act.put, pu]
    refine tN 11 20 ?_ rfl rfl ?_ hH0 ?_
    rotate_left
    ·intro wS hS; go_simp; (try with_reducible rfl)
    simp only [Act.put, pu]
    refine tN 12 20 ?_ rfl rfl ?_ hH0 ?_
    rotate_left
    ·intro wS hS; have f0 : wS.cell? ⟨bt, 1, none⟩ = some (.int .i64 (i : Int)) := cell_of_row _ _ 1 _ _ _ (HTK.out wS hS); go_simp; (try with_reducible rfl)
    simp only [Act.put, pu]
    refine tN 13 20 ?_ rfl rfl ?_ hH0 ?_
    rotate_left
    ·intro wS hS; go_simp; (try with_reducible rfl)
    simp only [Act.put, pu]
    refine tN 14 20 ?_ rfl rfl ?_ hH0 ?_
    rotate_left
    ·intro wS hS; have f0 := (HSK.out wS hS).lines.look ha4 hi4 ⟨ha, hlt, fun e => hne e.symm⟩; go_simp; (try with_reducible rfl)
    simp only [Act.put, pu]
    refine wpAnyN_one (i := 15) (by decide +kernel) (by rfl) (fun K hK => ?_)
    rw [if_pos (by rfl)]
    obtain ⟨fn, tmps, assign, body, hy, hR⟩ := HY.out ss ⟨i, hlt, hne⟩ u0 HJD.out (by have := HSL.out; omega)
    simp only [othE] at hy
    unfold Oper.wpIn
    refine ⟨fun _ _ => trivial, ?_⟩
    rw [show (Fence.wide).round = none from rfl, Oper.semAt_none]
    go_simp
    refine ⟨fun _ => by omega, ?_⟩
    refine hR.mono ?_
    rintro e W3 (⟨rfl, hJ3, hk3⟩ | ⟨rfl, hJx3⟩)
    ·have HJ3 := hide hJ3
     have hO3 := (HSK.out u0 hH0).keep hk3
     have HO3 := hide hO3
     clear hJ3 hk3 hO3 hy hR
     refine hK.out _ _ (Or.inl rfl) ?_
     clear hK K
     try simp only [Act.put, pu]
     refine wpAnyN_one (i := 16) (by decide +kernel) (by rfl) (fun K hK => ?_)
     rw [if_pos (by rfl)]
     unfold Oper.wpIn
     refine ⟨fun _ _ => trivial, ?_⟩
     rw [show (Fence.wide).round = none from rfl, Oper.semAt_none]
     go_simp
     refine hK.out _ _ (Or.inl rfl) ?_
     clear hK K
     try simp only [Act.put, pu]
     refine wpAnyN_one (i := 17) (by decide +kernel) (by rfl) (fun K hK => ?_)
     rw [if_pos (by rfl)]
     unfold Oper.wpIn
     refine ⟨fun _ _ => trivial, ?_⟩
     rw [show (Fence.wide).round = none from rfl, Oper.semAt_none]
     go_simp
     refine hK.out _ _ (Or.inl rfl) ?_
     clear hK K
     try simp only [Act.put, pu]
     refine wpAnyN_done (by decide +kernel) ?_ _
     gi_wp2
     go_roundw
     case rel => exact ⟨i + 1, ss ++ [⟨i, hlt, hne⟩], by omega, by go_num, hide ⟨HO3.out, by rw [List.map_append, HSS.out, othR_snoc, if_neg hne]; rfl, by rw [List.length_append]; exact Nat.succ_le_succ HSL.out, HJ3.out⟩⟩
     case measure => simp [intOf]; omega
    ·have HJ3 := hide hJx3
     clear hJx3 hy hR
     refine hK.out _ _ (Or.inl rfl) ?_
     clear hK K
     try simp only [Act.put, pu]
     refine wpAnyN_one (i := 16) (by decide +kernel) (by rfl) (fun K hK => ?_)
     rw [if_pos (by rfl)]
     unfold Oper.wpIn
     refine ⟨fun _ _ => trivial, ?_⟩
     rw [show (Fence.wide).round = none from rfl, Oper.semAt_none]
     go_simp
     refine hK.out _ _ (Or.inl rfl) ?_
     clear hK K
     try simp only [Act.put, pu]
     refine wpAnyN_one (i := 17) (by decide +kernel) (by rfl) (fun K hK => ?_)
     rw [if_pos (by rfl)]
     unfold Oper.wpIn
     refine ⟨fun _ _ => trivial, ?_⟩
     rw [show (Fence.wide).round = none from rfl, Oper.semAt_none]
     go_simp
     refine hK.out _ _ (Or.inl rfl) ?_
     clear hK K
     try simp only [Act.put, pu]
     refine wpAnyN_done (by decide +kernel) ?_ _
     gi_wp2
     refine bodyPost_ret (results_none rfl _ _ _) rfl ?_
     exact ⟨⟨_, rfl⟩, .inr ⟨ss ++ [⟨i, hlt, hne⟩], trivial, HJ3.out⟩⟩
  ·obtain rfl : i = nn := by omega
   gi_wp2
   go_end0
   exact ⟨⟨_, rfl⟩, .inl ⟨ss, HI.out.2.1, HI.out.2.2.2⟩⟩
section
attribute [local go_sem] Oper.semAt_some
theorem others_stops (n : Nat) (hn : 2 ≤ n) (T : CC) (nn a b1 b2 D : Nat) (hn4 : nn ≤ 4) (ha : a < nn) (w : World) (hO : OtS T nn a b1 b2 D w) :
  SeqStopsK Fence.wide n Tryz.prog 118 #[.pointer (some ⟨b1, 0, none⟩), .pointer (some ⟨b2, 0, none⟩)] (fun x : OthN nn a => othE T a x) (FrD D) (fun ss => ss.map (fun x => x.1) = othR nn a) (fun _ => True) nn w := fun l J Jx W hW hJ _ hY h0 =>
 others1_in n hn l T nn a b1 b2 D hn4 ha J Jx hY W hJ (hO.below hW) h0
theorem FrD.put {D : Nat} {W : World} {l : Nat} (o' : Obj) (hl : D ≤ l) : FrD D W (W.putObj l o') := fun k o hk ho _ _ => ((grownBy_putObj' W l o').block k (lt_of_block ho) (fun e => by injection e with e; omega)).trans ho
def ChaLow (T : CC) (n D : Nat) : Prop := (∀ i, i < n → T.mp i < D) ∧ T.lb < D
theorem ChaAt.low {T : CC} {n : Nat} {s : Dg.Ch} {X : World} (h : ChaAt T n s X) : ChaLow T n X.heap.size := by
 obtain ⟨V, h⟩ := h
 exact ⟨fun i hi => (h.pages i hi).map.lt, h.lines.lt⟩
theorem ChaAt.off {T : CC} {n D : Nat} {s : Dg.Ch} {X Y : World} (h : ChaAt T n s X) (hD : ChaLow T n D) {row : Option Nat} (hg : X.grownBy Y row) (hr : ∀ r, row = some r → D ≤ r ∧ ∃ o : Obj, X.heap[r]? = some o ∧ o.isCells = false) : ChaAt T n s Y := by
 obtain ⟨V, h⟩ := h
 have hc : ∀ {k : Nat} {cs : Array Value} {t : TypeId} {fr : Nat × Nat}, X.heap[k]? = some (.cells cs t fr) → Y.heap[k]? = X.heap[k]? := fun {k cs t fr} hk => hg.block k (lt_of_block hk) (fun e => by
  obtain ⟨_, o, ho, hf⟩ := hr k e.symm
  rw [hk] at ho
  injection ho with ho
  rw [← ho] at hf
  cases hf)
 have hm : ∀ {k : Nat}, k < D → k < X.heap.size → Y.heap[k]? = X.heap[k]? := fun {k} hk hx => hg.block k hx (fun e => by have := (hr k e.symm).1; omega)
 refine ⟨V, (hc h.rc).trans h.rc, own_kept h.rs fun k hk => ?_, fun i hi => ⟨(hc (h.pages i hi).row).trans (h.pages i hi).row, (h.pages i hi).map.same (hm (hD.1 i hi) (h.pages i hi).map.lt)⟩, h.lines.same (hm hD.2 h.lines.lt), fun i k hi hk hik => (hc (h.que i k hi hk hik)).trans (h.que i k hi hk hik),
  fun i k hi hk hik => (h.row i k hi hk hik).kept (fun j hj => ?_) (fun j cs fr hj => hc hj), h.up, h.apart, h.qinj, h.minj, h.lbne, h.bq, h.bm, h.n4⟩
 ·injection hk with hk
  subst hk
  rcases h.rs.2 with ⟨e, _⟩ | ⟨g, cap, cur, e, _, hgb, _⟩
  ·cases e
  ·injection e with e
   injection e with e
   injection e with e
   have e : T.sb = g := e
   show Y.heap[T.sb]? = X.heap[T.sb]?
   rw [e]
   exact hc hgb
 ·obtain ⟨vs, h1, _⟩ := h.row i k hi hk hik
  rcases h1 with ⟨e, _⟩ | ⟨g', off, cap, cur, e, hgb, _⟩
  ·rw [e] at hj
   cases hj
  ·rw [e] at hj
   injection hj with hj
   rw [← hj]
   exact hc hgb
def tellS (s : Dg.Ch) (a : Nat) (m : List Dg.Cl) (L : List Nat) : Dg.Ch := L.foldl (fun s k => Dg.upL s a k (s.ln a k ++ [m])) s
theorem tellS_snoc (s : Dg.Ch) (a : Nat) (m : List Dg.Cl) (L : List Nat) (k : Nat) : tellS s a m (L ++ [k]) = Dg.upL (tellS s a m L) a k ((tellS s a m L).ln a k ++ [m]) := by
 unfold tellS
 rw [List.foldl_append]
 rfl
theorem tellS_pg (s : Dg.Ch) (a : Nat) (m : List Dg.Cl) : ∀ L : List Nat, (tellS s a m L).pg = s.pg := fun L => by
 induction L generalizing s with
 | nil => rfl
 | cons k L ih => exact ih (Dg.upL s a k (s.ln a k ++ [m]))
theorem tellS_ln (a : Nat) (m : List Dg.Cl) : ∀ (L : List Nat) (s : Dg.Ch), L.Nodup → ∀ x y, (tellS s a m L).ln x y = if x = a ∧ y ∈ L then s.ln x y ++ [m] else s.ln x y
 | [], s, _, x, y => by
  rw [if_neg (fun h => by cases h.2)]
  rfl
 | k :: L, s, hn, x, y => by
  have h1 := tellS_ln a m L (Dg.upL s a k (s.ln a k ++ [m])) (List.nodup_cons.1 hn).2 x y
  have hk := (List.nodup_cons.1 hn).1
  have e : (Dg.upL s a k (s.ln a k ++ [m])).ln x y = if x = a ∧ y = k then s.ln a k ++ [m] else s.ln x y := rfl
  show (tellS (Dg.upL s a k (s.ln a k ++ [m])) a m L).ln x y = _
  rw [h1, e]
  by_cases hx : x = a
  ·by_cases hy : y = k
   ·subst hx hy
    rw [if_neg (fun h => hk h.2), if_pos ⟨rfl, rfl⟩, if_pos ⟨rfl, List.mem_cons_self ..⟩]
   ·by_cases hL : y ∈ L
    ·rw [if_pos ⟨hx, hL⟩, if_neg (fun h => hy h.2), if_pos ⟨hx, List.mem_cons_of_mem _ hL⟩]
    ·rw [if_neg (fun h => hL h.2), if_neg (fun h => hy h.2), if_neg (fun h => (List.mem_cons.1 h.2).elim hy hL)]
  ·rw [if_neg (fun h => hx h.1), if_neg (fun h => hx h.1), if_neg (fun h => hx h.1)]
theorem tellS_len (a : Nat) (m : List Dg.Cl) : ∀ (L : List Nat) (s : Dg.Ch) (x y : Nat), ((tellS s a m L).ln x y).length ≤ (s.ln x y).length + L.length
 | [], s, x, y => Nat.le_refl _
 | k :: L, s, x, y => by
  have h1 := tellS_len a m L (Dg.upL s a k (s.ln a k ++ [m])) x y
  have e : (Dg.upL s a k (s.ln a k ++ [m])).ln x y = if x = a ∧ y = k then s.ln a k ++ [m] else s.ln x y := rfl
  rw [e] at h1
  show ((tellS (Dg.upL s a k (s.ln a k ++ [m])) a m L).ln x y).length ≤ _
  rw [List.length_cons]
  split at h1
  ·rename_i h2
   rw [h2.1, h2.2]
   rw [List.length_append, List.length_singleton] at h1
   rw [h2.1, h2.2] at h1
   omega
  ·omega
theorem othR_nodup (n a : Nat) : (othR n a).Nodup := List.nodup_range.filter _
theorem mem_othR {n a k : Nat} : k ∈ othR n a ↔ k < n ∧ k ≠ a := by
 unfold othR
 rw [List.mem_filter, List.mem_range, decide_eq_true_iff]
theorem tell_all (n : Nat) (s : Dg.Ch) (a : Nat) (x : Dg.Cl) : tellS s a [x] (othR n a) = Dg.tellC n s a x := by
 have h1 := tellS_pg s a [x] (othR n a)
 have h2 : (tellS s a [x] (othR n a)).ln = (Dg.tellC n s a x).ln := by
  funext p q
  rw [tellS_ln a [x] _ s (othR_nodup n a) p q]
  show _ = if p = a ∧ q ≠ a ∧ q < n then s.ln p q ++ [[x]] else s.ln p q
  by_cases h : p = a ∧ q ≠ a ∧ q < n
  ·rw [if_pos h, if_pos ⟨h.1, mem_othR.2 ⟨h.2.2, h.2.1⟩⟩]
  ·rw [if_neg h, if_neg (fun h' => h ⟨h'.1, (mem_othR.1 h'.2).2, (mem_othR.1 h'.2).1⟩)]
 show tellS s a [x] (othR n a) = ⟨s.pg, (Dg.tellC n s a x).ln⟩
 rw [← h1, ← h2]
theorem own_lit (X : World) (x : Dg.Cl) : Own1 clL 55 (X.alloc (.cells (clC x) 55)) 0 (.slice (some ⟨X.heap.size, 0, none⟩) 1 1) [x] := by
 have h := Own1.mk (L := clL) (e := 55) (w := X.alloc (.cells (clC x) 55)) (B := 0) (g := X.heap.size) (cap := 1) (l := [x]) (sp := []) (Nat.zero_le _) (by
  rw [clL.flat_cons, clL.flat_nil, List.append_nil, List.append_nil]
  exact heap_alloc_new X _) (by decide) (Nat.le_refl _) rfl
 exact h
attribute [-go_sem] Instr.loadAt in
theorem tell_of {T : CC} {n : Nat} {s : Dg.Ch} (w : World) (h : ChaAt T n s w) {a : Nat} (ha : a < n) (x : Dg.Cl) (hlen : ∀ k, (s.ln a k).length ≤ 1000) :
  Calls Tryz.prog 76 #[.pointer (some ⟨T.cp, 0, none⟩), .int .i64 (a : Int), .agg (clC x)] w fun e Y => e = .returned (.tuple #[]) ∧ ChaAt T n (Dg.tellC n s a x) Y ∧ Below T.B w Y ∧ FrT w Y := by
 have hn4 := h.n4
 have htop := h.top ha
 have hbl : Below w.heap.size w (((w.alloc (.cells (clC x) 55)).alloc (.cells #[.pointer (some ⟨T.cp, 0, none⟩)] 67)).alloc (.cells #[.int .i64 (a : Int)] 3)) := (((Below.refl w.heap.size w).alloc (Nat.le_refl _) _).alloc (by simp) _).alloc (by simp; omega) _
 obtain ⟨r1, r2, r3, _, hsz⟩ := iAlloc3 w (.cells (clC x) 55) (.cells #[.pointer (some ⟨T.cp, 0, none⟩)] 67) (.cells #[.int .i64 (a : Int)] 3)
 have hch := h.below hbl
 refine (callsIn_wide (n := 5)).1 ?_
 refine callsIn_of_wp_marks func76 rfl trivial ?_ rfl
 simp only [ntmps76, List.size_toArray, List.length_cons, List.length_nil, Nat.reduceAdd, Nat.reduceSub, Array.replicate_succ, Array.replicate_zero, List.push_toArray, List.append_toArray, List.nil_append, List.cons_append]
 have HCH := hide hch; have HBL := hide hbl; have HR1 := hide r1; have HR2 := hide r2; have HR3 := hide r3; have HSZ := hide hsz; have HLN := hide hlen
 clear h hch hbl r1 r2 r3 hsz hlen
 gi_wp2_with (refine ⟨trivial, ?_⟩; gi_at_call 100; refine (callsIn_wide.2 (others_of T.cp a _)).mono ?_; rintro e w' ⟨rfl, rfl⟩)
 generalize ((w.alloc (.cells (clC x) 55)).alloc (.cells #[.pointer (some ⟨T.cp, 0, none⟩)] 67)).alloc (.cells #[.int .i64 (a : Int)] 3) = w3 at *
 have hsz3 := HSZ.out
 have hO : OtS T n a (w.heap.size + 1) (w.heap.size + 1 + 1) w3.heap.size w3 := by
  obtain ⟨V, h⟩ := HCH.out
  refine ⟨HR2.out, HR3.out, h.rc, h.rs, h.lines, by omega, by omega, lt_of_block h.rc, ?_, h.lines.lt⟩
  rcases h.rs.2 with ⟨e, _⟩ | ⟨g, cap, cur, e, _, hgb, _⟩
  ·cases e
  ·injection e with e
   injection e with e
   injection e with e
   have e : T.sb = g := e
   rw [e]
   exact lt_of_block hgb
 have hlow := HCH.out.low
 refine wpIn_rangeFunc_ownG (n := 5) rfl (by omega) (gf := 118) (lb := #[.pointer (some ⟨w.heap.size + 1, 0, none⟩), .pointer (some ⟨w.heap.size + 1 + 1, 0, none⟩)]) rfl trivial (enters_of func118 (by kernel_rfl) rfl)
  (others_stops 4 (by omega) T n a (w.heap.size + 1) (w.heap.size + 1 + 1) w3.heap.size hn4 ha w3 hO) (fun h k => FrD.trans h k) (fun W l o o' hl _ _ _ => FrD.put o' hl) (Below.refl _ _) (fun _ => rfl)
  (fun (pre : List (OthN n a)) W => (ChaAt T n (tellS s a [x] (pre.map fun x => x.1)) W ∧ W.heap[w.heap.size]? = some (.cells (clC x) 55 (0, 0))) ∧ Below T.B w W ∧ w3.heap.size ≤ W.heap.size ∧ FrD w3.heap.size w3 W)
  (fun _ _ _ => False) ?hI
  (fun _ _ _ _ _ hs _ _ => hs)
  ⟨⟨HCH.out, HR1.out⟩, HBL.out.mono htop, Nat.le_refl _, fun _ _ _ h _ _ => h⟩
  ?a1 ?assign ?body ?done ?stop
 case hI =>
  rintro pre W W' row ⟨⟨h1, h2⟩, h3, h4, h5⟩ hg hr
  refine ⟨⟨h1.off hlow hg hr, ?_⟩, h3.grown hg (by have := HBL.out.size; omega) (fun k hk => by have := (hr k hk).1; have := HBL.out.size; omega), Nat.le_trans h4 hg.size, fun k o hk ho q1 q2 => ?_⟩
  ·exact (hg.block _ (lt_of_block h2) (fun e => by have := (hr _ e.symm).1; omega)).trans h2
  ·have h6 := h5 k o hk ho q1 q2
   exact (hg.block k (lt_of_block h6) (fun e => by have := (hr _ e.symm).1; omega)).trans h6
 case assign =>
  intro l y W K hK
  simp only [othE]
  gi_wp2
  exact hK
 case body =>
  rintro l pre y W ⟨⟨h1, h2⟩, h3, h4, h5⟩ hlt
  have hld := load_cl h2
  have hcz : (clC x).size = 20 := rfl
  have hfc := fold_cl x
  have hbn := nwB W (.cells (clC x) 55)
  have hlen' : ((tellS s a [x] (pre.map fun x => x.1)).ln a y.1).length ≤ 1000000 := by
   have h8 := tellS_len a [x] (pre.map fun x => x.1) s a y.1
   have h6 := HLN.out y.1
   rw [List.length_map] at h8
   omega
  have HPC := hide (lineput_of (W.alloc (.cells (clC x) 55)) (h1.below hbn) ha y.2.1 (Ne.symm y.2.2) [x] (some ⟨W.heap.size, 0, none⟩) 1 1 (own_lit W x) hlen')
  have H2 := hide h2; have H3 := hide h3; have H4 := hide h4; have HBN := hide hbn; have H5 := hide h5
  clear h1 h2 h3 h4 h5 hbn hlen'
  gi_wp2_with (refine ⟨trivial, ?_⟩; gi_at_call 77; refine (CallsIn.inRound l (callsIn_wide.2 HPC.out)).mono ?_; rintro e W2 ⟨rfl, hch, hb2, hT⟩)
  have hF : FrT W W2 := (FrT.below HBN.out).trans hT
  have hz : W.heap.size ≤ W2.heap.size := Nat.le_trans HBN.out.size hb2.size
  refine ⟨⟨hz, fun k o _ hk ho => hF k o hk (fun cs fr e => by rw [e] at ho; cases ho) (fun cs fr e => by rw [e] at ho; cases ho)⟩, hF.low, ⟨?_, ?_⟩, H3.out.trans ((HBN.out.mono ?_).trans hb2), Nat.le_trans H4.out hz, H5.out.trans hF.low⟩
  ·rw [List.map_append]
   show ChaAt T n (tellS s a [x] ((pre.map fun x => x.1) ++ [y.1])) W2
   rw [tellS_snoc]
   exact hch
  ·exact hF _ _ H2.out (fun _ _ e => by injection e with _ e _; exact absurd e (by decide)) (fun _ _ e => by injection e with _ e _; exact absurd e (by decide))
  ·have h7 := H4.out
   have h8 := HBL.out.size
   omega
 case done =>
  rintro D ys W hD hS ⟨⟨h1, h2⟩, h3, h4, h5⟩ hK
  have h1' := h1
  rw [hS, tell_all] at h1'
  have HC := hide h1'; have H3 := hide h3; have H5 := hide h5
  clear h1 h1' h2 h3 h5 hS
  gi_wp2
  refine ⟨by simp, .inl ⟨_, _, rfl, run_takeDeferred hK, ?_⟩⟩
  refine ⟨_, results_none rfl _ _ _, rfl, HC.out.off hlow (grownBy_putObj' W D _) (fun r e => ?_), H3.out.grown (grownBy_putObj' W D _) (by have := HBL.out.size; omega) (fun k hk => by injection hk with hk; have := HBL.out.size; omega), fun k o ho q1 q2 => ?_⟩
  ·injection e with e
   subst e
   exact ⟨hD, _, hK, rfl⟩
  ·have hk := lt_of_block ho
   have h6 := H5.out k o (by omega) ((HBL.out.block k hk).trans ho) q1 q2
   exact ((grownBy_putObj' W D _).block k (lt_of_block h6) (fun e => by injection e with e; omega)).trans h6
 case stop =>
  rintro D c pre W _ _ h _
  exact h.elim
end
theorem stamp_nrun (w : World) (a b a' b' : Int) : (binOp .neq 49 (.agg #[.int .i64 a, .int .i64 b]) (.agg #[.int .i64 a', .int .i64 b'])).run Tryz.prog w = .ok (.bool (!sameS ⟨a, b⟩ ⟨a', b'⟩)) w := by
 rw [run_neq_struct, stamp_eqIn 9998]
 rfl
theorem one_st (a b : Int) : ∀ u ∈ (Value.agg #[.int .i64 a, .int .i64 b]).cells.toList, u.oneCell' = true := fun u hu => by
 rcases List.mem_cons.1 hu with rfl | hu
 ·rfl
 ·rcases List.mem_cons.1 hu with rfl | hu
  ·rfl
  ·cases hu
theorem putC_err {pg : List Dg.Cl} {c : Dg.Cl} (h : (Dg.putC pg c).2 ≠ 0) : (Dg.putC pg c).1 = pg := by
 revert h
 unfold Dg.putC
 by_cases h1 : Dg.clOk c = false
 ·rw [if_pos h1]
  exact fun _ => rfl
 ·rw [if_neg h1]
  cases Dg.getC pg c.id with
  | some o =>
   show (if o.after = c.after ∧ o.patch = c.patch then (Dg.setC pg { o with gone := o.gone || c.gone }, (0 : Int)) else (pg, 9)).2 ≠ 0 → (if o.after = c.after ∧ o.patch = c.patch then (Dg.setC pg { o with gone := o.gone || c.gone }, (0 : Int)) else (pg, 9)).1 = pg
   split
   ·exact fun h => absurd rfl h
   ·exact fun _ => rfl
  | none =>
   show (if Dg.getC pg c.after = none ∧ c.after ≠ Dg.Sp0 then (pg, (11 : Int)) else if c.gone = false ∧ 64 ≤ Dg.openN pg then (pg, 27) else (pg ++ [c], 0)).2 ≠ 0 → (if Dg.getC pg c.after = none ∧ c.after ≠ Dg.Sp0 then (pg, (11 : Int)) else if c.gone = false ∧ 64 ≤ Dg.openN pg then (pg, 27) else (pg ++ [c], 0)).1 = pg
   split
   ·exact fun _ => rfl
   ·split
    ·exact fun _ => rfl
    ·exact fun h => absurd rfl h
theorem ChaAt.setSp {T : CC} {n : Nat} {s : Dg.Ch} {X : World} (h : ChaAt T n s X) {g : Nat} {old : Array Value} (hg : X.heap[g]? = some (.cells old 49 (0, 0))) (cs : Array Value) : ChaAt T n s (X.setRow g cs) := by
 obtain ⟨V, h⟩ := h
 have hc : ∀ {k : Nat} {o : Obj}, X.heap[k]? = some o → (∀ cs fr, o ≠ .cells cs 49 fr) → (X.setRow g cs).heap[k]? = X.heap[k]? := fun {k o} hk hne => setRow_other X g k cs (tag_ne hk hg (hne _ _))
 refine ⟨V, (hc h.rc (fun _ _ e => by injection e with _ e _; exact absurd e (by decide))).trans h.rc, own_kept h.rs fun k hk => ?_, fun i hi => ?_, ?_, fun i k hi hk hik => (hc (h.que i k hi hk hik) (fun _ _ e => by injection e with _ e _; exact absurd e (by decide))).trans (h.que i k hi hk hik),
  fun i k hi hk hik => (h.row i k hi hk hik).kept (fun j hj => ?_) (fun j cs fr hj => hc hj (fun _ _ e => by injection e with _ e _; exact absurd e (by decide))), h.up, h.apart, h.qinj, h.minj, h.lbne, h.bq, h.bm, h.n4⟩
 ·injection hk with hk
  subst hk
  rcases h.rs.2 with ⟨e, _⟩ | ⟨g', cap, cur, e, _, hgb, _⟩
  ·cases e
  ·injection e with e
   injection e with e
   injection e with e
   have e : T.sb = g' := e
   show (X.setRow g cs).heap[T.sb]? = X.heap[T.sb]?
   rw [e]
   exact hc hgb (fun _ _ e => by injection e with _ e _; exact absurd e (by decide))
 ·obtain ⟨es, k, hm⟩ := (h.pages i hi).map.obj
  exact ⟨(hc (h.pages i hi).row (fun _ _ e => by injection e with _ e _; exact absurd e (by decide))).trans (h.pages i hi).row, (h.pages i hi).map.same (hc hm (fun _ _ e => by cases e))⟩
 ·obtain ⟨es, k, hm⟩ := h.lines.obj
  exact h.lines.same (hc hm (fun _ _ e => by cases e))
 ·obtain ⟨vs, h1, _⟩ := h.row i k hi hk hik
  rcases h1 with ⟨e, _⟩ | ⟨g', off, cap, cur, e, hgb, _⟩
  ·rw [e] at hj
   cases hj
  ·rw [e] at hj
   injection hj with hj
   rw [← hj]
   exact hc hgb (fun _ _ e => by injection e with _ e _; exact absurd e (by decide))
def PrpQ (T : CC) (n : Nat) (s' : Dg.Ch) (X : World) (e : Ending) (Y : World) : Prop := (∃ r, e = .returned r) ∧ ChaAt T n s' Y ∧ Below T.B X Y
def clP (i : Nat) (k : Int) (a b : Int) (p : Dg.Pt) : Dg.Cl := ⟨⟨(i : Int), k⟩, ⟨a, b⟩, p, false⟩
theorem own_q {X : World} {B : Nat} {v : Value} {l : List Dg.Cl} (h : Own1 clL 55 X B v l) : ∃ A c, v = .slice A l.length c := by
 obtain ⟨A, c, h, _, _⟩ := h.row
 exact ⟨A, c, h⟩
attribute [-go_sem] Instr.storeAt run_neq_struct in
theorem propose_of {T : CC} {n : Nat} {s : Dg.Ch} (X : World) (h : ChaAt T n s X) (hp : PgsOk n s) (hpl : ∀ i, i < n → (s.pg i).length ≤ 1000) (hlen : ∀ i k, (s.ln i k).length ≤ 1000) {i : Nat} (hi : i < n) (a b : Int) (p : Dg.Pt) :
  Calls Tryz.prog 43 #[.pointer (some ⟨T.cp, 0, none⟩), .int .i64 (i : Int), .agg #[.int .i64 a, .int .i64 b], .agg (ptC p)] X (PrpQ T n (Dg.proposeC n s i ⟨a, b⟩ p) X) := by
 have hmx := hmxQ
 have htop := h.top hi
 obtain ⟨r1, r2, r3, hb, hs⟩ := iAlloc3 X (.cells #[.int .i64 a, .int .i64 b] 49) (.cells (ptC p) 53) (.cells #[.int .i64 0, .int .i64 0] 49)
 have hch := h.below hb
 have H0 := hide h
 have i0 : (0 : Int) ≤ (i : Int) := by omega
 have i1 : (i : Int) < (n : Int) := by omega
 have HCH := hide hch; have HR1 := hide r1; have HR2 := hide r2; have HR3 := hide r3; have HB := hide hb; have HSZ := hide hs; have HP := hide hp; have HPL := hide hpl; have HLN := hide hlen; have HTP := hide htop
 clear h hp hpl hlen r1 r2 r3 hb hs hch htop
 go_enter func43, ntmps43
 go_wp2_with fail
 generalize ((X.alloc (.cells #[.int .i64 a, .int .i64 b] 49)).alloc (.cells (ptC p) 53)).alloc (.cells #[.int .i64 0, .int .i64 0] 49) = X1 at *
 obtain ⟨V1, hV1⟩ := HCH.out
 refine (is_yes T.cp T.sb n T.cap _ X1 hV1.rc hi).mono ?_
 rintro e Y ⟨rfl, rfl⟩
 have c0 : Y.cell? ⟨T.cp, 0, none⟩ = some (.slice (some ⟨T.sb, 0, none⟩) n T.cap) := cell_of_row _ _ 0 _ _ _ hV1.rc
 have c1 := (seat_cells hV1.rs hi).1
 have HV1 := hide hV1
 clear hV1
 go_wp2_with fail
 clear c0 c1
 refine (pageList_of (T.pb i) (T.mp i) (s.pg i) (HP.out i hi).1 (HP.out i hi).2 Y (HV1.out.pages i hi)).mono ?_
 rintro e X2 ⟨⟨v, rfl, hv⟩, hb2⟩
 obtain ⟨L, hL⟩ : ∃ L, Dg.listC (s.pg i) = L := ⟨_, rfl⟩
 rw [hL] at hv
 obtain ⟨A, c, hve⟩ := own_q hv
 obtain ⟨nl, hnl⟩ : ∃ nl, L.length = nl := ⟨_, rfl⟩
 rw [hnl] at hve
 subst hve
 obtain ⟨q, hq⟩ : ∃ q, Dg.getC L ⟨a, b⟩ = q := ⟨_, rfl⟩
 have hnb : nl ≤ 1000 := by
  have h1 := HPL.out i hi
  have h2 := Dg.listC_len (pg := s.pg i) (by obtain ⟨D, _, hD⟩ := (HV1.out.pages i hi).map; exact hD.nd) (HP.out i hi).1
  rw [hL] at h2
  omega
 have hB2 := bnext HB.out hb2
 have r12 := iNext HR1.out hb2; have r22 := iNext HR2.out hb2; have r32 := iNext HR3.out hb2
 have HCH2 := hide (HCH.out.below hb2)
 have k0 : X2.cell? ⟨X.heap.size, 0, none⟩ = some (.int .i64 a) := cell_of_row _ _ 0 _ _ _ r12
 have k1 : X2.cell? ⟨X.heap.size, 1, none⟩ = some (.int .i64 b) := cell_of_row _ _ 1 _ _ _ r12
 have HFD := hide (find_of (.slice A nl c) L _ a b X2 hv (by omega) q hq)
 have HVO := hide hv; have HL := hide hL; have HNL := hide hnl; have HQ := hide hq; have HB2 := hide hB2; have HR12 := hide r12; have HR22 := hide r22; have HR32 := hide r32
 clear hv hL hnl hq hB2 r12 r22 r32 hb2 HCH HB HR1 HR2 HR3 HV1
 go_wp2_with fail
 refine HFD.out.mono ?_
 rintro e X3 ⟨rfl, hb3⟩
 have hst := store_newcl X3 (q.getD Dg.Cl0)
 clear k0 k1 HFD
 have hbn := nwB X3 (.cells (clC (q.getD Dg.Cl0)) 55)
 have hb4 : Below X2.heap.size X2 (X3.alloc (.cells (clC (q.getD Dg.Cl0)) 55)) := hb3.trans (hbn.mono hb3.size)
 have hB4 := bnext HB2.out hb4
 have r14 := iNext HR12.out hb4; have r24 := iNext HR22.out hb4; have r34 := iNext HR32.out hb4
 have HCH4 := hide (HCH2.out.below hb4)
 have HVO4 := hide (HVO.out.below hb4)
 have HB4 := hide hB4; have HR14 := hide r14; have HR24 := hide r24; have HR34 := hide r34
 clear hbn hb3 hb4 hB4 r14 r24 r34 HB2 HR12 HR22 HR32 HCH2 HVO
 go_upto_region 5 with fail
 clear hst
 generalize X3.alloc (.cells (clC (q.getD Dg.Cl0)) 55) = X4 at *
 have k0 : X4.cell? ⟨X.heap.size, 0, none⟩ = some (.int .i64 a) := cell_of_row _ _ 0 _ _ _ HR14.out
 have k1 : X4.cell? ⟨X.heap.size, 1, none⟩ = some (.int .i64 b) := cell_of_row _ _ 1 _ _ _ HR14.out
 by_cases hno : q.isSome = false ∧ sameS ⟨a, b⟩ ⟨0, 0⟩ = false
 ·obtain ⟨hq0, hz⟩ := hno
  have hn0 := stamp_nrun X4 a b 0 0
  have hpr : Dg.proposeC n s i ⟨a, b⟩ p = s := if_pos ⟨by rw [HL.out, HQ.out]; exact Option.not_isSome_iff_eq_none.1 (by rw [hq0]; simp), fun e => by rw [(sameS_iff ⟨a, b⟩ ⟨0, 0⟩).2 e] at hz; cases hz⟩
  rw [hz] at hn0
  have hst := store_part (ty := 49) X4 (X.heap.size + 1 + 1) 0 #[.int .i64 0, .int .i64 0] (.agg #[.int .i64 0, .int .i64 0]) #[.int .i64 0, .int .i64 0] HR34.out (by kernel_rfl) (Nat.le_refl _) (by decide) rfl
  have hr9 := setRow_heap X4 (X.heap.size + 1 + 1) _ #[.int .i64 0, .int .i64 0] _ _ HR34.out
  have HB9 := hide (below_setRow HB4.out (g := X.heap.size + 1 + 1) (by omega) #[.int .i64 0, .int .i64 0])
  have HR9 := hide hr9; have HPR := hide hpr
  clear hr9 hpr hz
  go_wp2
  refine bodyPost_ret (results_c8 results43 _ _ (X.heap.size + 1 + 1) 49 #[.int .i64 0, .int .i64 0] (0, 0) _ rfl HR9.out underlying49 (by kernel_rfl)) rfl ⟨⟨_, rfl⟩, ?_, HB9.out.mono HTP.out⟩
  rw [HPR.out]
  exact H0.out.below HB9.out
 ·have hyes : q.isSome = true ∨ (q.isSome = false ∧ sameS ⟨a, b⟩ ⟨0, 0⟩ = true) := by
   cases h1 : q.isSome with
   | true => exact .inl rfl
   | false =>
    cases h2 : sameS ⟨a, b⟩ ⟨0, 0⟩ with
    | true => exact .inr ⟨rfl, rfl⟩
    | false => exact absurd ⟨h1, h2⟩ hno
  have hnp : ¬ (Dg.getC (Dg.listC (s.pg i)) ⟨a, b⟩ = none ∧ (⟨a, b⟩ : Dg.Sp) ≠ Dg.Sp0) := fun ⟨h1, h2⟩ => by
   rw [HL.out, HQ.out] at h1
   rcases hyes with h3 | ⟨_, h3⟩
   ·rw [h1] at h3; cases h3
   ·exact h2 ((sameS_iff _ _).1 h3)
  have HNP := hide hnp
  have hn0 := stamp_nrun X4 a b 0 0
  have hrg := range_of HR24.out 0 (Rq0 p) rfl
  have HRG := hide hrg
  clear hno hnp hrg
  rcases hyes with hq1 | ⟨hq1, hz⟩
  all_goals
   try rw [hz] at hn0
   try clear hz
   go_upto_region 7 with fail
   clear hn0
  all_goals
   have hst : (Instr.storeAt 55 (.pointer (some ⟨X4.heap.size, 0, none⟩)) (.agg #[.int .i64 (i : Int), .int .i64 1, .int .i64 a, .int .i64 b, .int .i64 p.1, .string p.2, .string p.3, .string p.4, .string p.5, .int .i64 p.6.1, .string p.6.2, .string p.6.3, .string p.6.4, .string p.6.5, .string p.6.6, .bool p.6.7, .int .i64 p.7, .string p.8, .string p.9, .bool false])).run Tryz.prog (X4.alloc (.cells Rq17 55)) = .ok () (X4.alloc (.cells (clC (clP i 1 a b p)) 55)) := store_newcl X4 (clP i 1 a b p)
   go_upto_region 8 with (with_reducible refine wpList_load_mid rfl 53 (.tmp 7) rfl (X.heap.size + 1) 0 rfl _ _ HRG.out underlying53 rfl (by kernel_rfl) ?_)
   clear hst HRG
   have r13 := heap_alloc_new X4 (.cells (clC (clP i 1 a b p)) 55)
   have hbz := nwB X4 (.cells (clC (clP i 1 a b p)) 55)
   have HREL := hide (⟨hbz, r13⟩ : Below X4.heap.size X4 (X4.alloc (.cells (clC (clP i 1 a b p)) 55)) ∧ (X4.alloc (.cells (clC (clP i 1 a b p)) 55)).heap[X4.heap.size]? = some (.cells (clC (clP i (Dg.nextN (L.take 0)) a b p)) 55 (0, 0)))
   clear hbz r13
   generalize X4.alloc (.cells (clC (clP i 1 a b p)) 55) = X5 at *
   go_wp2_with fail
   go_loopw [52] (fun iv wr => ∃ k : Nat, k ≤ nl ∧ iv = .int .i64 k ∧ Hid (Below X4.heap.size X4 wr ∧ wr.heap[X4.heap.size]? = some (.cells (clC (clP i (Dg.nextN (L.take k)) a b p)) 55 (0, 0)))) (fun iv _ => nl - (intOf iv).toNat)
   case atStart => exact ⟨0, Nat.zero_le _, rfl, HREL⟩
   case round =>
    clear HREL
    obtain ⟨k, hk, rfl, HK⟩ := hrel
    by_cases hlt : k < nl
    ·have hkl : k < L.length := by rw [HNL.out]; exact hlt
     obtain ⟨g, cap', sp, hvg, _, _, hgr, _, _, _⟩ := (HVO4.out.below HK.out.1).form (by omega)
     injection hvg with hvg hv8 hv9
     subst hvg
     clear hv8 hv9
     obtain ⟨y, hy⟩ : ∃ y, L[k] = y := ⟨_, rfl⟩
     obtain ⟨M, hM⟩ : ∃ M, Dg.nextN (L.take k) = M := ⟨_, rfl⟩
     have hMk : Dg.nextN (L.take (k + 1)) = max M (y.id.count + 1) := by rw [List.take_succ_eq_append_getElem hkl, hy, ← hM]; unfold Dg.nextN; rw [List.foldl_append]; rfl
     have hyc : 1 ≤ y.id.count ∧ y.id.count ≤ 1000000 := by
      have h1 : y ∈ Dg.listC (s.pg i) := by rw [HL.out, ← hy]; exact List.getElem_mem hkl
      exact Dg.spOk_count (Dg.clOk_id ((HP.out i hi).1 y (Dg.walkC_mem h1)))
     obtain ⟨hy1, hy2⟩ := hyc
     have hrg := range_of hgr (k * 20) (clC y).toList (by rw [← hy]; exact flat_at L sp k hkl)
     have HRG := hide hrg
     have hst := store_newcl wr y
     have hbn := nwB wr (.cells (clC y) 55)
     have r15 := heap_alloc_new wr (.cells (clC y) 55)
     have rk := iNext HK.out.2 hbn
     rw [hM] at rk
     have hbk : Below X4.heap.size X4 (wr.alloc (.cells (clC y) 55)) := HK.out.1.trans (hbn.mono HK.out.1.size)
     have HRK := hide rk; have HR15 := hide r15; have HBK := hide hbk; have HMK := hide hMk
     clear hrg hgr hy hM hMk hbn r15 rk hbk
     go_upto_region 11 with (with_reducible refine wpList_load_mid rfl 55 (.tmp 54) rfl g (k * 20) rfl _ _ HRG.out underlying55 rfl (by kernel_rfl) ?_)
     clear hst HRG
     generalize wr.alloc (.cells (clC y) 55) = w5 at *
     have m1 : w5.cell? ⟨X4.heap.size, 1, none⟩ = some (.int .i64 M) := cell_of_row _ _ 1 _ _ _ HRK.out
     have m2 : w5.cell? ⟨wr.heap.size, 1, none⟩ = some (.int .i64 y.id.count) := cell_of_row _ _ 1 _ _ _ HR15.out
     have hst := store_part (ty := 3) w5 X4.heap.size 1 (clC (clP i M a b p)) (.int .i64 (max M (y.id.count + 1))) (clC (clP i (max M (y.id.count + 1)) a b p)) HRK.out (by kernel_rfl) (show 2 ≤ 20 by decide) (one_int _ _) rfl
     have hr6 := setRow_heap w5 X4.heap.size _ (clC (clP i (max M (y.id.count + 1)) a b p)) _ _ HRK.out
     have hb6 := below_setRow HBK.out (g := X4.heap.size) (Nat.le_refl _) (clC (clP i (max M (y.id.count + 1)) a b p))
     rw [← HMK.out] at hr6 hb6
     have hst := hst
     have H6 := hide (And.intro hb6 hr6)
     clear hr6 hb6
     go_upto_region 12 with fail
     clear hst m1 m2
     rw [← HMK.out]
     generalize w5.setRow X4.heap.size (clC (clP i (Dg.nextN (L.take (k + 1))) a b p)) = w6 at *
     go_wp2_with fail
     go_roundw
     case rel => exact ⟨k + 1, by omega, by go_num, H6⟩
     case measure => simp [intOf]; omega
    ·obtain rfl : k = nl := by omega
     have hr13 := HK.out.2
     rw [List.take_of_length_le (Nat.le_of_eq HNL.out)] at hr13
     obtain ⟨M, hM⟩ : ∃ M, Dg.nextN L = M := ⟨_, rfl⟩
     rw [hM] at hr13
     have HR13 := hide hr13; have HBW := hide HK.out.1; have HM := hide hM
     clear hr13 hM HK
     have m1 : wr.cell? ⟨X4.heap.size, 1, none⟩ = some (.int .i64 M) := cell_of_row _ _ 1 _ _ _ HR13.out
     have r38 := iNext HR34.out HBW.out
     have hBX : Below X.heap.size X wr := HB4.out.trans (HBW.out.mono HB4.out.size)
     have HR38 := hide r38; have HBX := hide hBX
     clear r38 hBX
     by_cases hM6 : 1000000 < M
     ·have hst := store_part (ty := 49) wr (X.heap.size + 1 + 1) 0 #[.int .i64 0, .int .i64 0] (.agg #[.int .i64 0, .int .i64 0]) #[.int .i64 0, .int .i64 0] HR38.out (by kernel_rfl) (Nat.le_refl _) (by decide) rfl
      have hr9 := setRow_heap wr (X.heap.size + 1 + 1) _ #[.int .i64 0, .int .i64 0] _ _ HR38.out
      have HB9 := hide (below_setRow HBX.out (g := X.heap.size + 1 + 1) (by omega) #[.int .i64 0, .int .i64 0])
      have hpr : Dg.proposeC n s i ⟨a, b⟩ p = s := (if_neg HNP.out).trans (if_pos (by rw [HL.out, HM.out]; exact hM6))
      have HR9 := hide hr9; have HPR := hide hpr
      clear hr9 hpr
      go_wp2
      refine bodyPost_ret (results_c8 results43 _ _ (X.heap.size + 1 + 1) 49 #[.int .i64 0, .int .i64 0] (0, 0) _ rfl HR9.out underlying49 (by kernel_rfl)) rfl ⟨⟨_, rfl⟩, ?_, HB9.out.mono HTP.out⟩
      rw [HPR.out]
      exact H0.out.below HB9.out
     ·go_upto_region 15 with fail
      clear m1
      obtain ⟨V2, hV2⟩ := H0.out.below HBX.out
      refine wp_region_noPanic ?_
      refine wp_region_L (Below wr.drew.heap.size wr.drew) 9 hmx ?_
      have hdr := (Below.refl wr.heap.size wr).drew
      have hsd := hV2.kept hdr
      have hcd := iNext HR13.out hdr
      have hrd := iNext HR38.out hdr
      have HSK := hide (fun Z (hZ : Below wr.drew.heap.size wr.drew Z) => hsd.kept hZ)
      have HCK := hide (fun Z (hZ : Below wr.drew.heap.size wr.drew Z) => iNext hcd hZ)
      have HRK := hide (fun Z (hZ : Below wr.drew.heap.size wr.drew Z) => iNext hrd hZ)
      have hH0 := Below.refl wr.drew.heap.size wr.drew
      have HBU := hide HBX.out.drew
      clear hdr hsd hcd hrd hV2 HBW HR13 HR38 HBX
      generalize wr.drew = u0 at *
      obtain ⟨pg', hpg⟩ : ∃ pg', (Dg.putC (s.pg i) (clP i M a b p)).1 = pg' := ⟨_, rfl⟩
      obtain ⟨er, her⟩ : ∃ er, (Dg.putC (s.pg i) (clP i M a b p)).2 = er := ⟨_, rfl⟩
      have HPG := hide hpg; have HER := hide her
      clear hpg her
      have hpl9 : (s.pg i).length ≤ 100000 := by have := HPL.out i hi; omega
      refine tU 0 13 hH0 rfl ?_
      refine tU 1 13 hH0 rfl ?_
      refine tU 2 13 hH0 rfl ?_
      refine tU 3 13 hH0 rfl ?_ (by intro wS hS; have f0 : wS.cell? ⟨T.cp, 0, none⟩ = some (.slice (some ⟨T.sb, 0, none⟩) n T.cap) := cell_of_row _ _ 0 _ _ _ (HSK.out wS hS).rc; go_simp; (try with_reducible rfl))
      refine tU 4 13 hH0 rfl ?_
      refine tU 5 13 hH0 rfl ?_
      refine tU 6 13 hH0 rfl ?_
      refine tU 7 13 hH0 rfl ?_ (by intro wS hS; have f0 := (seat_cells (HSK.out wS hS).rs hi).1; go_simp; (try with_reducible rfl))
      refine tkV 8 13 (.agg (clC (clP i M a b p))) rfl (by exact yl_cl (.tmp 13) rfl (by rfl) (by rfl) (fun X hX => HCK.out X hX)) hH0 ?_
      simp only [Act.put, pu]
      refine oY 9 fun K hK => ?_
      go_simp
      refine (pagePut_of (T.pb i) (T.mp i) (s.pg i) hpl9 (clP i M a b p) u0 ((HSK.out u0 hH0).pages i hi)).mono ?_
      rw [HPG.out, HER.out]
      rintro e u1 ⟨rfl, hpg1, hgr1⟩
      have HP1 := hide hpg1; have HG1 := hide hgr1
      refine hK.out _ _ (Or.inl rfl) ?_
      clear hK K hpg1 hgr1
      try simp only [Act.put, pu]
      refine oY 10 fun K hK => ?_
      go_simp
      refine hK.out _ _ (Or.inl rfl) ?_
      clear hK K
      try simp only [Act.put, pu]
      refine dnY ?_
      have hc0 : ChaAt T n s u0 := ⟨_, HSK.out u0 hH0⟩
      have hc1 := hc0.page hi HP1.out HG1.out
      obtain ⟨es, kk, hmo⟩ := ((HSK.out u0 hH0).pages i hi).map.obj
      have t13 : u1.heap[X4.heap.size]? = some (.cells (clC (clP i M a b p)) 55 (0, 0)) := (HG1.out.block _ (lt_of_block (HCK.out u0 hH0)) (fun e => by
       injection e with e
       exact tag_ne (HCK.out u0 hH0) hmo (fun e => by cases e) e)).trans (HCK.out u0 hH0)
      have t8 : u1.heap[X.heap.size + 1 + 1]? = some (.cells #[.int .i64 0, .int .i64 0] 49 (0, 0)) := (HG1.out.block _ (lt_of_block (HRK.out u0 hH0)) (fun e => by
       injection e with e
       exact tag_ne (HRK.out u0 hH0) hmo (fun e => by cases e) e)).trans (HRK.out u0 hH0)
      have hb1 : Below T.B X u1 := (HBU.out.mono HTP.out).grown HG1.out (Nat.le_trans HTP.out HBU.out.size) (fun k hk => by
       injection hk with hk
       rw [← hk]
       exact (HSK.out u0 hH0).bm i hi)
      have hB8 : T.B ≤ X.heap.size + 1 + 1 := by have := HTP.out; omega
      have HC1 := hide hc1; have HT13 := hide t13; have HT8 := hide t8; have HB1 := hide hb1
      clear hc0 hc1 t13 t8 hb1 hmo hH0 HSK HCK HRK HBU
      by_cases hE : er = 0
      ·subst hE
       have hpr : Dg.proposeC n s i ⟨a, b⟩ p = Dg.tellC n (Dg.withC s i pg') i (clP i M a b p) := by
        unfold Dg.proposeC
        rw [if_neg HNP.out, HL.out, HM.out, if_neg hM6]
        show (if (Dg.putC (s.pg i) (clP i M a b p)).2 ≠ 0 then s else Dg.tellC n (Dg.withC s i (Dg.putC (s.pg i) (clP i M a b p)).1) i (clP i M a b p)) = _
        rw [HER.out, HPG.out, if_neg (fun h => h rfl)]
       have hrg := range_of HT13.out 0 (clC (clP i M a b p)).toList rfl
       have HTL := hide (tell_of u1 HC1.out hi (clP i M a b p) (fun k => HLN.out i k))
       have HPR := hide hpr; have HRG := hide hrg
       clear hpr hrg
       go_wp2_with (with_reducible refine wpList_load_mid rfl 55 (.tmp 13) rfl X4.heap.size 0 rfl _ _ HRG.out underlying55 rfl (by kernel_rfl) ?_)
       refine HTL.out.mono ?_
       rintro e Y9 ⟨rfl, hc9, hb9, hT9⟩
       have q13 := hT9 _ _ HT13.out (fun _ _ e => by injection e with _ e _; exact absurd e (by decide)) (fun _ _ e => by injection e with _ e _; exact absurd e (by decide))
       have q8 := hT9 _ _ HT8.out (fun _ _ e => by injection e with _ e _; exact absurd e (by decide)) (fun _ _ e => by injection e with _ e _; exact absurd e (by decide))
       have k0 : Y9.cell? ⟨X4.heap.size, 0, none⟩ = some (.int .i64 (i : Int)) := cell_of_row _ _ 0 _ _ _ q13
       have k1 : Y9.cell? ⟨X4.heap.size, 1, none⟩ = some (.int .i64 M) := cell_of_row _ _ 1 _ _ _ q13
       have hst := store_part (ty := 49) Y9 (X.heap.size + 1 + 1) 0 #[.int .i64 0, .int .i64 0] (.agg #[.int .i64 (i : Int), .int .i64 M]) #[.int .i64 (i : Int), .int .i64 M] q8 (by kernel_rfl) (Nat.le_refl _) (one_st _ _) rfl
       have HR9 := hide (setRow_heap Y9 (X.heap.size + 1 + 1) _ #[.int .i64 (i : Int), .int .i64 M] _ _ q8)
       have HB9 := hide (below_setRow (HB1.out.trans hb9) (g := X.heap.size + 1 + 1) hB8 #[.int .i64 (i : Int), .int .i64 M])
       have HC9 := hide (hc9.setSp q8 #[.int .i64 (i : Int), .int .i64 M])
       clear hc9 hb9 hT9 q13 q8 HTL
       go_wp2
       refine bodyPost_ret (results_c8 results43 _ _ (X.heap.size + 1 + 1) 49 #[.int .i64 (i : Int), .int .i64 M] (0, 0) _ rfl HR9.out underlying49 (by kernel_rfl)) rfl ⟨⟨_, rfl⟩, ?_, HB9.out⟩
       rw [HPR.out]
       exact HC9.out
      ·have hpr : Dg.proposeC n s i ⟨a, b⟩ p = s := by
        unfold Dg.proposeC
        rw [if_neg HNP.out, HL.out, HM.out, if_neg hM6]
        exact if_pos (by show (Dg.putC (s.pg i) (clP i M a b p)).2 ≠ 0; rw [HER.out]; exact hE)
       have hps : pg' = s.pg i := by rw [← HPG.out]; exact putC_err (by rw [HER.out]; exact hE)
       have hst := store_part (ty := 49) u1 (X.heap.size + 1 + 1) 0 #[.int .i64 0, .int .i64 0] (.agg #[.int .i64 0, .int .i64 0]) #[.int .i64 0, .int .i64 0] HT8.out (by kernel_rfl) (Nat.le_refl _) (by decide) rfl
       have HR9 := hide (setRow_heap u1 (X.heap.size + 1 + 1) _ #[.int .i64 0, .int .i64 0] _ _ HT8.out)
       have HB9 := hide (below_setRow HB1.out (g := X.heap.size + 1 + 1) hB8 #[.int .i64 0, .int .i64 0])
       have hc9 := HC1.out.setSp HT8.out #[.int .i64 0, .int .i64 0]
       rw [hps, withC_self] at hc9
       have HC9 := hide hc9; have HPR := hide hpr
       clear hpr hps hc9
       go_wp2
       refine bodyPost_ret (results_c8 results43 _ _ (X.heap.size + 1 + 1) 49 #[.int .i64 0, .int .i64 0] (0, 0) _ rfl HR9.out underlying49 (by kernel_rfl)) rfl ⟨⟨_, rfl⟩, ?_, HB9.out⟩
       rw [HPR.out]
       exact HC9.out
theorem drop_ok {pg : List Dg.Cl} {c : Dg.Cl} (hc : Dg.clOk c = true) (h : ∀ x ∈ pg, Dg.clOk x = true) : ∀ x ∈ Dg.dropC pg c, Dg.clOk x = true := fun x hx => by
 rcases Dg.mem_setC hx with rfl | ⟨hx, _⟩
 ·exact hc
 ·exact h x hx
theorem drop_len (pg : List Dg.Cl) (c : Dg.Cl) : (Dg.dropC pg c).length = pg.length := by
 unfold Dg.dropC Dg.setC
 rw [List.length_map]
attribute [-go_sem] Instr.storeAt run_neq_struct in
theorem withdraw_of {T : CC} {n : Nat} {s : Dg.Ch} (X : World) (h : ChaAt T n s X) (hp : PgsOk n s) (hpl : ∀ i, i < n → (s.pg i).length ≤ 1000) (hlen : ∀ i k, (s.ln i k).length ≤ 1000) {i : Nat} (hi : i < n) (a b : Int) (hsp : SpW ⟨a, b⟩) :
  Calls Tryz.prog 42 #[.pointer (some ⟨T.cp, 0, none⟩), .int .i64 (i : Int), .agg #[.int .i64 a, .int .i64 b]] X (PrpQ T n (Dg.withdrawC n s i ⟨a, b⟩) X) := by
 have hmx := hmxQ
 have htop := h.top hi
 have hb := nwB X (.cells #[.int .i64 a, .int .i64 b] 49)
 have r1 := heap_alloc_new X (.cells #[.int .i64 a, .int .i64 b] 49)
 have hch := h.below hb
 have i0 : (0 : Int) ≤ (i : Int) := by omega
 have i1 : (i : Int) < (n : Int) := by omega
 have H0 := hide h
 have HCH := hide hch; have HR1 := hide r1; have HB := hide hb; have HP := hide hp; have HPL := hide hpl; have HLN := hide hlen; have HTP := hide htop; have HSP0 := hide hsp
 clear h hp hpl hlen r1 hb hch htop hsp
 go_enter func42, ntmps42
 go_wp2_with fail
 generalize X.alloc (.cells #[.int .i64 a, .int .i64 b] 49) = X1 at *
 obtain ⟨V1, hV1⟩ := HCH.out
 refine (is_yes T.cp T.sb n T.cap _ X1 hV1.rc hi).mono ?_
 rintro e Y ⟨rfl, rfl⟩
 have k0 : Y.cell? ⟨X.heap.size, 0, none⟩ = some (.int .i64 a) := cell_of_row _ _ 0 _ _ _ HR1.out
 clear hV1
 by_cases hai : a = (i : Int)
 case neg =>
  have hbn : (a != (i : Int)) = true := by simpa using hai
  have hpr : Dg.withdrawC n s i ⟨a, b⟩ = s := if_pos hai
  have HPR := hide hpr
  clear hpr hai
  go_wp2
  go_ret
  exact ⟨⟨_, rfl⟩, by rw [HPR.out]; exact HCH.out, HB.out.mono HTP.out⟩
 subst hai
 have hbn : ((i : Int) != (i : Int)) = false := by simp
 go_upto_region 5 with fail
 clear k0 hbn
 obtain ⟨V2, hV2⟩ := HCH.out
 obtain ⟨pg1, hpg1⟩ : ∃ pg1, (dropP (s.pg i) ⟨(i : Int), b⟩).1 = pg1 := ⟨_, rfl⟩
 obtain ⟨er, her⟩ : ∃ er, (dropP (s.pg i) ⟨(i : Int), b⟩).2 = er := ⟨_, rfl⟩
 have HDP := hide (show dropP (s.pg i) ⟨(i : Int), b⟩ = (pg1, er) by rw [← hpg1, ← her])
 have HSP := hide HSP0.out
 have hpl9 : (s.pg i).length ≤ 100000 := by have := HPL.out i hi; omega
 clear hpg1 her HSP0
 refine wp_region_noPanic ?_
 refine wp_region_L (Below Y.drew.heap.size Y.drew) 9 hmx ?_
 have hdr := (Below.refl Y.heap.size Y).drew
 have hsd := hV2.kept hdr
 have hrd := iNext HR1.out hdr
 have HSK := hide (fun Z (hZ : Below Y.drew.heap.size Y.drew Z) => hsd.kept hZ)
 have HRK := hide (fun Z (hZ : Below Y.drew.heap.size Y.drew Z) => iNext hrd hZ)
 have hH0 := Below.refl Y.drew.heap.size Y.drew
 have HBU := hide HB.out.drew
 clear hdr hsd hrd hV2 HR1 HB
 generalize Y.drew = u0 at *
 refine tU 0 13 hH0 rfl ?_
 refine tU 1 13 hH0 rfl ?_
 refine tU 2 13 hH0 rfl ?_
 refine tU 3 13 hH0 rfl ?_ (by intro wS hS; have f0 : wS.cell? ⟨T.cp, 0, none⟩ = some (.slice (some ⟨T.sb, 0, none⟩) n T.cap) := cell_of_row _ _ 0 _ _ _ (HSK.out wS hS).rc; go_simp; (try with_reducible rfl))
 refine tU 4 13 hH0 rfl ?_
 refine tU 5 13 hH0 rfl ?_
 refine tU 6 13 hH0 rfl ?_
 refine tU 7 13 hH0 rfl ?_ (by intro wS hS; have f0 := (seat_cells (HSK.out wS hS).rs hi).1; go_simp; (try with_reducible rfl))
 refine tU 8 13 hH0 rfl ?_ (by intro wS hS; have f0 : wS.cell? ⟨X.heap.size, 0, none⟩ = some (.int .i64 (i : Int)) := cell_of_row _ _ 0 _ _ _ (HRK.out wS hS); have f1 : wS.cell? ⟨X.heap.size, 1, none⟩ = some (.int .i64 b) := cell_of_row _ _ 1 _ _ _ (HRK.out wS hS); go_simp; (try with_reducible rfl))
 refine oY 9 fun K hK => ?_
 go_simp
 refine (pageDrop_of (T.pb i) (T.mp i) (s.pg i) hpl9 (i : Int) b HSP.out u0 ((HSK.out u0 hH0).pages i hi)).mono ?_
 rw [HDP.out]
 rintro e u1 ⟨rfl, hpg1, hgr1⟩
 have HP1 := hide hpg1; have HG1 := hide hgr1
 refine hK.out _ _ (Or.inl rfl) ?_
 clear hK K hpg1 hgr1
 try simp only [Act.put, pu]
 refine oY 10 fun K hK => ?_
 go_simp
 refine hK.out _ _ (Or.inl rfl) ?_
 clear hK K
 try simp only [Act.put, pu]
 refine dnY ?_
 obtain ⟨es, kk, hmo⟩ := ((HSK.out u0 hH0).pages i hi).map.obj
 have t5 : u1.heap[X.heap.size]? = some (.cells #[.int .i64 (i : Int), .int .i64 b] 49 (0, 0)) := (HG1.out.block _ (lt_of_block (HRK.out u0 hH0)) (fun e => by
  injection e with e
  exact tag_ne (HRK.out u0 hH0) hmo (fun e => by cases e) e)).trans (HRK.out u0 hH0)
 have hc1 := ChaAt.page ⟨_, HSK.out u0 hH0⟩ hi HP1.out HG1.out
 have hb1 : Below T.B X u1 := (HBU.out.mono HTP.out).grown HG1.out (Nat.le_trans HTP.out HBU.out.size) (fun k hk => by
  injection hk with hk
  rw [← hk]
  exact (HSK.out u0 hH0).bm i hi)
 have HC1 := hide hc1; have HT5 := hide t5; have HB1 := hide hb1
 clear hc1 t5 hb1 hmo hH0 HSK HRK HBU HP1 HG1
 cases hg : Dg.getC (s.pg i) ⟨(i : Int), b⟩ with
 | none =>
  have hd : dropP (s.pg i) ⟨(i : Int), b⟩ = (s.pg i, 11) := by unfold dropP; rw [hg]
  have hd2 := HDP.out.symm.trans hd
  have hpe : pg1 = s.pg i := congrArg Prod.fst hd2
  obtain rfl : er = 11 := congrArg Prod.snd hd2
  have hpr : Dg.withdrawC n s i ⟨(i : Int), b⟩ = s := by unfold Dg.withdrawC; rw [if_neg (fun h => h rfl), hg]
  have hc9 := HC1.out
  rw [hpe, withC_self] at hc9
  have HC9 := hide hc9; have HPR := hide hpr
  clear hd hd2 hpe hpr hc9 hg
  go_wp2
  go_ret
  exact ⟨⟨_, rfl⟩, by rw [HPR.out]; exact HC9.out, HB1.out⟩
 | some x =>
  have hd : dropP (s.pg i) ⟨(i : Int), b⟩ = (Dg.dropC (s.pg i) x, 0) := by unfold dropP; rw [hg]
  have hd2 := HDP.out.symm.trans hd
  have hpe : pg1 = Dg.dropC (s.pg i) x := congrArg Prod.fst hd2
  obtain rfl : er = 0 := congrArg Prod.snd hd2
  have hxm := (Dg.getC_some hg).1
  have hok1 : ∀ y ∈ pg1, Dg.clOk y = true := by rw [hpe]; exact drop_ok ((HP.out i hi).1 x hxm) (HP.out i hi).1
  have hle1 : pg1.length ≤ 1000 := by rw [hpe, drop_len]; exact HPL.out i hi
  obtain ⟨L1, hL1⟩ : ∃ L1, Dg.listC pg1 = L1 := ⟨_, rfl⟩
  obtain ⟨n1, hn1⟩ : ∃ n1, L1.length = n1 := ⟨_, rfl⟩
  obtain ⟨q1, hq1⟩ : ∃ q1, Dg.getC L1 ⟨(i : Int), b⟩ = q1 := ⟨_, rfl⟩
  have hwc : Dg.withdrawC n s i ⟨(i : Int), b⟩ = Dg.tellC n (Dg.withC s i pg1) i (q1.getD Dg.Cl0) := by
   unfold Dg.withdrawC
   rw [if_neg (fun h => h rfl), hg]
   show Dg.tellC n (Dg.withC s i (Dg.dropC (s.pg i) x)) i ((Dg.getC (Dg.listC (Dg.dropC (s.pg i) x)) ⟨(i : Int), b⟩).getD Dg.Cl0) = _
   rw [← hpe, hL1, hq1]
  have hnb : L1.length ≤ 1000000 := by
   obtain ⟨V3, hV3⟩ := HC1.out
   have hnd : Dg.NdC pg1 := by
    obtain ⟨D, _, hD⟩ := (hV3.pages i hi).map
    have := hD.nd
    rwa [show (Dg.withC s i pg1).pg i = pg1 from Dg.upP_at _ _ _] at this
   have := Dg.listC_len hnd hok1
   rw [hL1] at this
   omega
  have HOK1 := hide hok1; have HLE1 := hide (Nat.le_trans hle1 (by decide : 1000 ≤ 100000)); have HL1 := hide hL1; have HN1 := hide hn1; have HQ1 := hide hq1; have HWC := hide hwc; have HNB := hide hnb
  have HPE := hide (show (Dg.withC s i pg1).pg i = pg1 from Dg.upP_at _ _ _)
  clear hd hd2 hpe hxm hok1 hle1 hL1 hn1 hq1 hwc hnb hg HDP
  go_upto_region 8 with fail
  obtain ⟨V3, hV3⟩ := HC1.out
  refine wp_region_noPanic ?_
  refine wp_region_L (Below u1.drew.heap.size u1.drew) 15 hmx ?_
  have hdr := (Below.refl u1.heap.size u1).drew
  have hsd := hV3.kept hdr
  have hrd := iNext HT5.out hdr
  have HSK := hide (fun Z (hZ : Below u1.drew.heap.size u1.drew Z) => hsd.kept hZ)
  have HRK := hide (fun Z (hZ : Below u1.drew.heap.size u1.drew Z) => iNext hrd hZ)
  have hH0 := Below.refl u1.drew.heap.size u1.drew
  have HTU := hide (HC1.out.below hdr |>.top hi)
  have HBF := hide HB1.out.drew
  have HC2 := hide (HC1.out.below hdr)
  clear hdr hsd hrd hV3 HT5 HC1 HB1
  generalize u1.drew = u0 at *
  refine tU 0 19 hH0 rfl ?_
  refine tU 1 19 hH0 rfl ?_
  refine tU 2 19 hH0 rfl ?_
  refine tU 3 19 hH0 rfl ?_ (by intro wS hS; have f0 : wS.cell? ⟨T.cp, 0, none⟩ = some (.slice (some ⟨T.sb, 0, none⟩) n T.cap) := cell_of_row _ _ 0 _ _ _ (HSK.out wS hS).rc; go_simp; (try with_reducible rfl))
  refine tU 4 19 hH0 rfl ?_
  refine tU 5 19 hH0 rfl ?_
  refine tU 6 19 hH0 rfl ?_
  refine tU 7 19 hH0 rfl ?_ (by intro wS hS; have f0 := (seat_cells (HSK.out wS hS).rs hi).1; go_simp; (try with_reducible rfl))
  refine tU 9 19 hH0 rfl ?_ (by intro wS hS; have f0 : wS.cell? ⟨X.heap.size, 0, none⟩ = some (.int .i64 (i : Int)) := cell_of_row _ _ 0 _ _ _ (HRK.out wS hS); have f1 : wS.cell? ⟨X.heap.size, 1, none⟩ = some (.int .i64 b) := cell_of_row _ _ 1 _ _ _ (HRK.out wS hS); go_simp; (try with_reducible rfl))
  refine wpAnyL_duo (i := 8) (j := 14) (by decide +kernel) (by rfl) (by rfl) (fun K hK => ?_) (fun K hK => ?_)
  ·rw [if_pos (by rfl)]
   go_simp
   refine (pageList_of (T.pb i) (T.mp i) pg1 HOK1.out HLE1.out u0 (by rw [← HPE.out]; exact (HSK.out _ hH0).pages i hi)).mono ?_
   rw [HL1.out]
   rintro e u1 ⟨⟨v, rfl, hv⟩, hx⟩
   obtain ⟨A, c, hve⟩ := own_q hv
   rw [HN1.out] at hve
   subst hve
   have hH1 := hH0.trans (hx.mono hH0.size)
   have HV := hide hv
   refine hK.out _ _ (Or.inr hH1) ?_
   clear hK K hv hx hH0
   try simp only [Act.put, pu]
   refine wpAnyL_duo (i := 10) (j := 14) (by decide +kernel) (by rfl) (by rfl) (fun K hK => ?_) (fun K hK => ?_)
   ·rw [if_pos (by rfl)]
    go_simp
    refine (find_of (.slice A n1 c) L1 _ (i : Int) b u1 HV.out HNB.out q1 HQ1.out).mono ?_
    rintro e u2 ⟨rfl, hx⟩
    have hH2 := hH1.trans (hx.mono hH1.size)
    refine hK.out _ _ (Or.inr hH2) ?_
    clear hK K hx hH1 HV
    try simp only [Act.put, pu]
    refine tU 11 19 hH2 rfl ?_
    refine tU 12 19 hH2 rfl ?_
    refine tZ 13 ?_ rfl ?_ (Or.inr hH2) ?_
    rotate_left
    ·intro wS hS; go_simp; (try with_reducible rfl)
    simp only [Act.put, pu]
    refine oY 14 fun K hK => ?_
    go_simp
    have hH3 := hH2.alloc hH2.size (.cells Rq17 55)
    have HT3 := hide (show (u2.alloc (.cells Rq17 55)).heap[u2.heap.size]? = some (.cells (clC Dg.Cl0) 55 (0, 0)) from heap_alloc_new u2 _)
    have HBT := hide hH2.size
    refine hK.out _ _ (Or.inr hH3) ?_
    clear hK K hH2
    generalize u2.alloc (.cells Rq17 55) = u3 at *
    try simp only [Act.put, pu]
    refine oY 15 fun K hK => ?_
    have hst := store_cl (y := q1.getD Dg.Cl0) HT3.out
    go_simp
    have HR9 := hide (setRow_heap u3 (u2.heap.size) _ (clC (q1.getD Dg.Cl0)) _ _ HT3.out)
    have HB9 := hide (below_setRow hH3 (g := u2.heap.size) HBT.out (clC (q1.getD Dg.Cl0)))
    refine hK.out _ _ (Or.inl rfl) ?_
    clear hK K hst hH3 HT3
    generalize u3.setRow (u2.heap.size) (clC (q1.getD Dg.Cl0)) = u9 at *
    try simp only [Act.put, pu]
    refine oY 16 fun K hK => ?_
    go_simp
    refine hK.out _ _ (Or.inl rfl) ?_
    clear hK K
    try simp only [Act.put, pu]
    refine dnY ?_
    have hc9 : ChaAt T n (Dg.withC s i pg1) u9 := HC2.out.below HB9.out
    have HC9 := hide hc9
    have hrg := range_of HR9.out 0 (clC (q1.getD Dg.Cl0)).toList rfl
    have HTL := hide (tell_of u9 HC9.out hi (q1.getD Dg.Cl0) (fun k => HLN.out i k))
    have HRG := hide hrg
    clear hc9 hrg
    go_wp2_with (with_reducible refine wpList_load_mid rfl 55 (.tmp 8) rfl (u2.heap.size) 0 rfl _ _ HRG.out underlying55 rfl (by kernel_rfl) ?_)
    refine HTL.out.mono ?_
    rintro e Y9 ⟨rfl, hc9, hb9, _⟩
    have HCZ := hide hc9
    have HBZ := hide (HBF.out.trans ((HB9.out.mono HTU.out).trans hb9))
    clear hc9 hb9
    go_wp2
    go_ret
    exact ⟨⟨_, rfl⟩, by rw [HWC.out]; exact HCZ.out, HBZ.out⟩
   ·rw [if_pos (by rfl)]
    go_simp
    have hH2 := hH1.alloc hH1.size (.cells Rq17 55)
    have HT2 := hide (show (u1.alloc (.cells Rq17 55)).heap[u1.heap.size]? = some (.cells (clC Dg.Cl0) 55 (0, 0)) from heap_alloc_new u1 _)
    have HBT := hide hH1.size
    have HV2 := hide (HV.out.below (Below.news (Below.refl _ _) (.cells Rq17 55)))
    refine hK.out _ _ (Or.inr hH2) ?_
    clear hK K hH1 HV
    generalize u1.alloc (.cells Rq17 55) = u2 at *
    try simp only [Act.put, pu]
    refine oY 10 fun K hK => ?_
    go_simp
    refine (find_of (.slice A n1 c) L1 _ (i : Int) b u2 HV2.out HNB.out q1 HQ1.out).mono ?_
    rintro e u3 ⟨rfl, hx⟩
    have hH3 := hH2.trans (hx.mono hH2.size)
    have HT3 := hide (iNext HT2.out hx)
    refine hK.out _ _ (Or.inr hH3) ?_
    clear hK K hx hH2 HV2 HT2
    try simp only [Act.put, pu]
    refine tU 11 19 hH3 rfl ?_
    refine tU 12 19 hH3 rfl ?_
    refine tZ 13 ?_ rfl ?_ (Or.inr hH3) ?_
    rotate_left
    ·intro wS hS; go_simp; (try with_reducible rfl)
    simp only [Act.put, pu]
    refine oY 15 fun K hK => ?_
    have hst := store_cl (y := q1.getD Dg.Cl0) HT3.out
    go_simp
    have HR9 := hide (setRow_heap u3 (u1.heap.size) _ (clC (q1.getD Dg.Cl0)) _ _ HT3.out)
    have HB9 := hide (below_setRow hH3 (g := u1.heap.size) HBT.out (clC (q1.getD Dg.Cl0)))
    refine hK.out _ _ (Or.inl rfl) ?_
    clear hK K hst hH3 HT3
    generalize u3.setRow (u1.heap.size) (clC (q1.getD Dg.Cl0)) = u9 at *
    try simp only [Act.put, pu]
    refine oY 16 fun K hK => ?_
    go_simp
    refine hK.out _ _ (Or.inl rfl) ?_
    clear hK K
    try simp only [Act.put, pu]
    refine dnY ?_
    have hc9 : ChaAt T n (Dg.withC s i pg1) u9 := HC2.out.below HB9.out
    have HC9 := hide hc9
    have hrg := range_of HR9.out 0 (clC (q1.getD Dg.Cl0)).toList rfl
    have HTL := hide (tell_of u9 HC9.out hi (q1.getD Dg.Cl0) (fun k => HLN.out i k))
    have HRG := hide hrg
    clear hc9 hrg
    go_wp2_with (with_reducible refine wpList_load_mid rfl 55 (.tmp 8) rfl (u1.heap.size) 0 rfl _ _ HRG.out underlying55 rfl (by kernel_rfl) ?_)
    refine HTL.out.mono ?_
    rintro e Y9 ⟨rfl, hc9, hb9, _⟩
    have HCZ := hide hc9
    have HBZ := hide (HBF.out.trans ((HB9.out.mono HTU.out).trans hb9))
    clear hc9 hb9
    go_wp2
    go_ret
    exact ⟨⟨_, rfl⟩, by rw [HWC.out]; exact HCZ.out, HBZ.out⟩
  ·rw [if_pos (by rfl)]
   go_simp
   have hH1 := hH0.alloc hH0.size (.cells Rq17 55)
   have HT1 := hide (show (u0.alloc (.cells Rq17 55)).heap[u0.heap.size]? = some (.cells (clC Dg.Cl0) 55 (0, 0)) from heap_alloc_new u0 _)
   have HBT := hide hH0.size
   refine hK.out _ _ (Or.inr hH1) ?_
   clear hK K hH0
   generalize u0.alloc (.cells Rq17 55) = u1 at *
   try simp only [Act.put, pu]
   refine oY 8 fun K hK => ?_
   go_simp
   refine (pageList_of (T.pb i) (T.mp i) pg1 HOK1.out HLE1.out u1 (by rw [← HPE.out]; exact (HSK.out _ hH1).pages i hi)).mono ?_
   rw [HL1.out]
   rintro e u2 ⟨⟨v, rfl, hv⟩, hx⟩
   obtain ⟨A, c, hve⟩ := own_q hv
   rw [HN1.out] at hve
   subst hve
   have hH2 := hH1.trans (hx.mono hH1.size)
   have HV := hide hv
   have HT2 := hide (iNext HT1.out hx)
   refine hK.out _ _ (Or.inr hH2) ?_
   clear hK K hv hx hH1 HT1
   try simp only [Act.put, pu]
   refine oY 10 fun K hK => ?_
   go_simp
   refine (find_of (.slice A n1 c) L1 _ (i : Int) b u2 HV.out HNB.out q1 HQ1.out).mono ?_
   rintro e u3 ⟨rfl, hx⟩
   have hH3 := hH2.trans (hx.mono hH2.size)
   have HT3 := hide (iNext HT2.out hx)
   refine hK.out _ _ (Or.inr hH3) ?_
   clear hK K hx hH2 HV HT2
   try simp only [Act.put, pu]
   refine tU 11 19 hH3 rfl ?_
   refine tU 12 19 hH3 rfl ?_
   refine tZ 13 ?_ rfl ?_ (Or.inr hH3) ?_
   rotate_left
   ·intro wS hS; go_simp; (try with_reducible rfl)
   simp only [Act.put, pu]
   refine oY 15 fun K hK => ?_
   have hst := store_cl (y := q1.getD Dg.Cl0) HT3.out
   go_simp
   have HR9 := hide (setRow_heap u3 (u0.heap.size) _ (clC (q1.getD Dg.Cl0)) _ _ HT3.out)
   have HB9 := hide (below_setRow hH3 (g := u0.heap.size) HBT.out (clC (q1.getD Dg.Cl0)))
   refine hK.out _ _ (Or.inl rfl) ?_
   clear hK K hst hH3 HT3
   generalize u3.setRow (u0.heap.size) (clC (q1.getD Dg.Cl0)) = u9 at *
   try simp only [Act.put, pu]
   refine oY 16 fun K hK => ?_
   go_simp
   refine hK.out _ _ (Or.inl rfl) ?_
   clear hK K
   try simp only [Act.put, pu]
   refine dnY ?_
   have hc9 : ChaAt T n (Dg.withC s i pg1) u9 := HC2.out.below HB9.out
   have HC9 := hide hc9
   have hrg := range_of HR9.out 0 (clC (q1.getD Dg.Cl0)).toList rfl
   have HTL := hide (tell_of u9 HC9.out hi (q1.getD Dg.Cl0) (fun k => HLN.out i k))
   have HRG := hide hrg
   clear hc9 hrg
   go_wp2_with (with_reducible refine wpList_load_mid rfl 55 (.tmp 8) rfl (u0.heap.size) 0 rfl _ _ HRG.out underlying55 rfl (by kernel_rfl) ?_)
   refine HTL.out.mono ?_
   rintro e Y9 ⟨rfl, hc9, hb9, _⟩
   have HCZ := hide hc9
   have HBZ := hide (HBF.out.trans ((HB9.out.mono HTU.out).trans hb9))
   clear hc9 hb9
   go_wp2
   go_ret
   exact ⟨⟨_, rfl⟩, by rw [HWC.out]; exact HCZ.out, HBZ.out⟩
theorem clause_nrun (w : World) (x : Dg.Cl) : (binOp .neq 55 (.agg (clC x)) (.agg (clC x))).run Tryz.prog w = .ok (.bool false) w := by
 rw [run_neq_struct, clause_eqIn 9995, sameCl_dec, decide_eq_true rfl]
 rfl
theorem yl_necl {ops : Array Oper} {S : World → Prop} {op : Oper} {a : Act} {u : Dg.Cl} (y z : Operand) (ho : op.op = .binOp .neq 55 y z 55) (hw : Region.wanted op (yielded ops a.tmps) = true) (hx : a.eval y = .agg (clC u)) (hz : a.eval z = .agg (clC u)) : YieldsIf Tryz.prog ops S op (.bool false) a :=
 .inl ⟨hw, fun w _ => by
  unfold execOp
  simp only [ho, hx, hz, Sem.run_bind, Sem.run_pure, Result.andThen_ok, clause_nrun, run_eqGuard_agg (w := w) .neq 55 y z (clC u) (clC u) (show Tryz.prog.eqGuardType Tryz.prog.depth 55 = false by kernel_rfl)]⟩
theorem yl_clr {ops : Array Oper} {S : World → Prop} {op : Oper} {a : Act} {b off : Nat} {x : Dg.Cl} (y : Operand) (ho : op.op = .load 55 y) (hw : Region.wanted op (yielded ops a.tmps) = true) (hx : a.eval y = .pointer (some ⟨b, off, none⟩)) (hS : ∀ w, S w → w.rangeAt b off (clC x).toList) : YieldsIf Tryz.prog ops S op (.agg (clC x)) a :=
 yieldsIf_load_mid hw 55 y ho b off hx (clC x).toList _ hS underlying55 rfl (by kernel_rfl)
theorem range_below {X Y : World} {g off : Nat} {cs : List Value} (h : X.rangeAt g off cs) (hg : g < X.heap.size) (hb : Below X.heap.size X Y) : Y.rangeAt g off cs := fun j v hj => (World.cell?_of_block (a := ⟨g, off + j, none⟩) (hb.block g hg)).trans (h j v hj)
theorem own_range {X : World} {B : Nat} {A : Option Addr} {n c : Nat} {l : List Dg.Cl} (h : Own1 clL 55 X B (.slice A n c) l) {k : Nat} (hk : k < l.length) : ∃ g, A = some ⟨g, 0, none⟩ ∧ g < X.heap.size ∧ X.rangeAt g (k * 20) (clC l[k]).toList := by
 obtain ⟨g, cap', sp, hvg, _, hgl, hgr, _, _, _⟩ := h.form (by omega)
 injection hvg with hvg _ _
 exact ⟨g, hvg, hgl, range_of hgr (k * 20) (clC l[k]).toList (flat_at l sp k hk)⟩
theorem equal_same (v v' : Value) (L : List Dg.Cl) (B B' : Nat) (X : World) (h : Own1 clL 55 X B v L) (h' : Own1 clL 55 X B' v' L) (hl : L.length ≤ 1000000) :
  Calls Tryz.prog 49 #[v, v'] X fun e Y => e = .returned (.bool true) ∧ Below X.heap.size X Y := by
 have hmx := hmxQ
 obtain ⟨A, c, rfl⟩ := own_q h
 obtain ⟨A', c', rfl⟩ := own_q h'
 obtain ⟨n, hn⟩ : ∃ n, L.length = n := ⟨_, rfl⟩
 rw [hn] at h h' hl ⊢
 have H1 := hide h; have H2 := hide h'; have HN := hide hn
 have hbn : ((n : Int) != (n : Int)) = false := by simp
 clear h h' hn
 go_enter func49, ntmps49
 go_wp2
 go_loopw [13] (fun iv wr => ∃ k : Nat, k ≤ n ∧ iv = .int .i64 k ∧ Hid (Below X.heap.size X wr)) (fun iv _ => n - (intOf iv).toNat)
 case atStart => exact ⟨0, Nat.zero_le _, rfl, hide (Below.refl _ _)⟩
 case round =>
  obtain ⟨k, hk, rfl, HK⟩ := hrel
  by_cases hlt : k < n
  ·have hkl : k < L.length := by rw [HN.out]; exact hlt
   obtain ⟨g, rfl, hg1, hr1⟩ := own_range (H1.out.below HK.out) hkl
   obtain ⟨g', rfl, hg2, hr2⟩ := own_range (H2.out.below HK.out) hkl
   obtain ⟨x, hx⟩ : ∃ x, L[k] = x := ⟨_, rfl⟩
   rw [hx] at hr1 hr2
   have HR1 := hide hr1; have HR2 := hide hr2
   clear hr1 hr2 hx
   go_upto_region 6 with fail
   refine wp_region_noPanic ?_
   refine wp_region_L (Below wr.drew.heap.size wr.drew) 9 hmx ?_
   have hdr := (Below.refl wr.heap.size wr).drew
   have hq1 := range_below HR1.out hg1 hdr
   have hq2 := range_below HR2.out hg2 hdr
   have H1K := hide (fun Z (hZ : Below wr.drew.heap.size wr.drew Z) => range_below hq1 hg1 hZ)
   have H2K := hide (fun Z (hZ : Below wr.drew.heap.size wr.drew Z) => range_below hq2 hg2 hZ)
   have hH0 := Below.refl wr.drew.heap.size wr.drew
   have HBU := hide HK.out.drew
   clear hdr hq1 hq2 HR1 HR2 HK
   generalize wr.drew = u0 at *
   refine tU 0 11 hH0 rfl ?_
   refine tU 1 11 hH0 rfl ?_
   refine tU 2 11 hH0 rfl ?_
   refine tkV 3 11 (.agg (clC x)) rfl (by exact yl_clr (.tmp 18) rfl (by rfl) (by rfl) (fun X hX => H1K.out X hX)) hH0 ?_
   simp only [Act.put, pu]
   refine tU 4 11 hH0 rfl ?_
   refine tU 5 11 hH0 rfl ?_
   refine tU 6 11 hH0 rfl ?_
   refine tkV 7 11 (.agg (clC x)) rfl (by exact yl_clr (.tmp 22) rfl (by rfl) (by rfl) (fun X hX => H2K.out X hX)) hH0 ?_
   simp only [Act.put, pu]
   refine tkV 8 11 (.bool false) rfl (by exact yl_necl (.tmp 19) (.tmp 23) rfl (by rfl) (by rfl) (by rfl)) hH0 ?_
   simp only [Act.put, pu]
   refine dnY ?_
   go_wp2_with fail
   go_roundw
   case rel => exact ⟨k + 1, by omega, by go_num, HBU⟩
   case measure => simp [intOf]; omega
  ·obtain rfl : k = n := by omega
   go_wp2
   go_ret
   exact ⟨rfl, HK.out⟩
theorem settled1_of {T : CC} {n : Nat} {s : Dg.Ch} (X : World) (h : ChaAt T n s X) (hp : PgsOk n s) (L : List Dg.Cl) (hL : ∀ i, i < n → Dg.listC (s.pg i) = L) (hlb : L.length ≤ 1000000) {i : Nat} (hi : i < n) (bc : Nat) (hbc : X.heap[bc]? = some (.cells #[.pointer (some ⟨T.cp, 0, none⟩)] 67 (0, 0))) :
  Calls Tryz.prog 48 #[.agg #[.pointer (some ⟨T.pb i, 0, none⟩), .int .i64 (i : Int)], .pointer (some ⟨bc, 0, none⟩)] X fun e Y => e = .returned (.bool false) ∧ Below X.heap.size X Y := by
 have hmx := hmxQ
 have hb := nwB X (.cells #[.pointer (some ⟨T.pb i, 0, none⟩), .int .i64 (i : Int)] 109)
 have r2 := heap_alloc_new X (.cells #[.pointer (some ⟨T.pb i, 0, none⟩), .int .i64 (i : Int)] 109)
 have rc := iNext hbc hb
 have hn0 : 0 < n := by omega
 have i1 : (0 : Int) < (n : Int) := by omega
 have HCH := hide (h.below hb); have HR := hide r2; have HRC := hide rc; have HB := hide hb; have HP := hide hp; have HL := hide hL; have HLB := hide hlb
 obtain ⟨nl, hnl⟩ : ∃ nl, L.length = nl := ⟨_, rfl⟩
 have HNL := hide hnl
 clear h hp hL hb r2 rc hbc hlb hnl
 go_enter func48, ntmps48
 go_upto_region 1 with fail
 generalize X.alloc (.cells #[.pointer (some ⟨T.pb i, 0, none⟩), .int .i64 (i : Int)] 109) = X1 at *
 generalize hbs : X.heap.size = bs at *
 have HBS := hide hbs
 clear hbs
 obtain ⟨V1, hV1⟩ := HCH.out
 refine wp_region_noPanic ?_
 refine wp_region_L (Below X1.drew.heap.size X1.drew) 14 hmx ?_
 have hdr := (Below.refl X1.heap.size X1).drew
 have hsd := hV1.kept hdr
 have hrd := iNext HR.out hdr
 have hcd := iNext HRC.out hdr
 have HSK := hide (fun Z (hZ : Below X1.drew.heap.size X1.drew Z) => hsd.kept hZ)
 have HRK := hide (fun Z (hZ : Below X1.drew.heap.size X1.drew Z) => iNext hrd hZ)
 have HBK := hide (fun Z (hZ : Below X1.drew.heap.size X1.drew Z) => iNext hcd hZ)
 have hH0 := Below.refl X1.drew.heap.size X1.drew
 have HBU := hide HB.out.drew
 clear hdr hsd hrd hcd hV1 HR HRC HB HCH
 generalize X1.drew = u0 at *
 refine tU 0 16 hH0 rfl ?_
 refine tU 1 16 hH0 rfl ?_ (by intro wS hS; have f0 : wS.cell? ⟨bs, 0, none⟩ = some (.pointer (some ⟨T.pb i, 0, none⟩)) := cell_of_row _ _ 0 _ _ _ (HRK.out wS hS); go_simp; (try with_reducible rfl))
 refine tU 3 16 hH0 rfl ?_ (by intro wS hS; have f0 : wS.cell? ⟨bc, 0, none⟩ = some (.pointer (some ⟨T.cp, 0, none⟩)) := iCells0 (HBK.out wS hS); go_simp; (try with_reducible rfl))
 refine tU 4 16 hH0 rfl ?_
 refine tU 5 16 hH0 rfl ?_
 refine tU 6 16 hH0 rfl ?_ (by intro wS hS; have f0 : wS.cell? ⟨T.cp, 0, none⟩ = some (.slice (some ⟨T.sb, 0, none⟩) n T.cap) := cell_of_row _ _ 0 _ _ _ (HSK.out wS hS).rc; go_simp; (try with_reducible rfl))
 refine tU 7 16 hH0 rfl ?_
 refine tU 8 16 hH0 rfl ?_
 refine tU 9 16 hH0 rfl ?_ (by intro wS hS; have f0 := (seat_cells (HSK.out wS hS).rs hn0).1; rw [Nat.zero_mul] at f0; go_simp; (try with_reducible rfl))
 refine oY 2 fun K hK => ?_
 go_simp
 refine (pageList_of (T.pb i) (T.mp i) (s.pg i) (HP.out i hi).1 (HP.out i hi).2 u0 ((HSK.out u0 hH0).pages i hi)).mono ?_
 rw [(HL.out i hi)]
 rintro e u1 ⟨⟨v, rfl, hv⟩, hx⟩
 obtain ⟨A, c, hve⟩ := own_q hv
 rw [HNL.out] at hve
 subst hve
 have hH1 := hH0.trans (hx.mono hH0.size)
 have HV := hide hv
 refine hK.out _ _ (Or.inr hH1) ?_
 clear hK K hv hx
 try simp only [Act.put, pu]
 refine oY 10 fun K hK => ?_
 go_simp
 refine (pageList_of (T.pb 0) (T.mp 0) (s.pg 0) (HP.out 0 hn0).1 (HP.out 0 hn0).2 u1 ((HSK.out u1 hH1).pages 0 hn0)).mono ?_
 rw [(HL.out 0 hn0)]
 rintro e u2 ⟨⟨v, rfl, hv⟩, hx⟩
 obtain ⟨A2, c2, hve⟩ := own_q hv
 rw [HNL.out] at hve
 subst hve
 have hH2 := hH1.trans (hx.mono hH1.size)
 have HV1 := hide (HV.out.below hx)
 have HV2 := hide hv
 refine hK.out _ _ (Or.inr hH2) ?_
 clear hK K hv hx HV
 try simp only [Act.put, pu]
 refine oY 11 fun K hK => ?_
 go_simp
 refine (equal_same (.slice A nl c) (.slice A2 nl c2) L _ _ u2 HV1.out HV2.out HLB.out).mono ?_
 rintro e u3 ⟨rfl, hx⟩
 have hH3 := hH2.trans (hx.mono hH2.size)
 refine hK.out _ _ (Or.inr hH3) ?_
 clear hK K hx
 try simp only [Act.put, pu]
 refine tU 12 16 hH3 rfl ?_
 refine tU 13 16 hH3 rfl ?_
 refine dnY ?_
 have HBX : Below X.heap.size X u0 := by
  rw [HBS.out]
  exact HBU.out
 have HBZ := hide (HBX.trans (hH3.mono HBX.size))
 clear hH0 hH1 hH2 hH3 HBX
 go_wp2
 go_ret
 exact ⟨rfl, HBZ.out⟩
theorem settledI_of {T : CC} {n : Nat} {s : Dg.Ch} (X : World) (h : ChaAt T n s X) (hp : PgsOk n s) (L : List Dg.Cl) (hL : ∀ i, i < n → Dg.listC (s.pg i) = L) (hlb : L.length ≤ 1000000) (bc : Nat) (hbc : X.heap[bc]? = some (.cells #[.pointer (some ⟨T.cp, 0, none⟩)] 67 (0, 0))) :
  Calls Tryz.prog 79 #[.slice (some ⟨T.sb, 0, none⟩) n T.cap, .func (.func 48) #[] #[.pointer (some ⟨bc, 0, none⟩)]] X fun e Y => e = .returned (.int .i64 (-1)) ∧ Below X.heap.size X Y := by
 have hn4 := h.n4
 have HCH := hide h; have HP := hide hp; have HL := hide hL; have HLB := hide hlb; have HBC := hide hbc
 clear h hp hL hlb hbc
 go_enter func79, ntmps79
 go_wp2
 go_loopw [8] (fun iv wr => ∃ k : Nat, k ≤ n ∧ iv = .int .i64 k ∧ Hid (Below X.heap.size X wr)) (fun iv _ => n - (intOf iv).toNat)
 case atStart => exact ⟨0, Nat.zero_le _, rfl, hide (Below.refl _ _)⟩
 case round =>
  obtain ⟨k, hk, rfl, HK⟩ := hrel
  by_cases hlt : k < n
  ·obtain ⟨V1, hV1⟩ := HCH.out.below HK.out
   have hsc := seat_cells hV1.rs hlt
   have s0 := hsc.1; have s1 := hsc.2
   clear hsc hV1
   go_wp2_with fail
   clear s0 s1
   refine (settled1_of wr (HCH.out.below HK.out) HP.out L HL.out HLB.out hlt bc (iNext HBC.out HK.out)).mono ?_
   rintro e Y ⟨rfl, hb⟩
   have HB := hide (bnext HK.out hb)
   clear hb
   go_wp2_with fail
   go_roundw
   case rel => exact ⟨k + 1, by omega, by go_num, HB⟩
   case measure => simp [intOf]; omega
  ·obtain rfl : k = n := by omega
   go_wp2
   go_ret
   exact ⟨rfl, HK.out⟩
theorem settledC_of {T : CC} {n : Nat} {s : Dg.Ch} (X : World) (h : ChaAt T n s X) (hp : PgsOk n s) (L : List Dg.Cl) (hL : ∀ i, i < n → Dg.listC (s.pg i) = L) (hlb : L.length ≤ 1000000) (bc : Nat) (hbc : X.heap[bc]? = some (.cells #[.pointer (some ⟨T.cp, 0, none⟩)] 67 (0, 0))) :
  Calls Tryz.prog 47 #[.slice (some ⟨T.sb, 0, none⟩) n T.cap, .func (.func 48) #[] #[.pointer (some ⟨bc, 0, none⟩)]] X fun e Y => e = .returned (.bool false) ∧ Below X.heap.size X Y := by
 have HC := hide (settledI_of X h hp L hL hlb bc hbc)
 clear h hp hL hlb hbc
 go_enter func47, ntmps47
 go_wp2_with fail
 refine HC.out.mono ?_
 rintro e Y ⟨rfl, hb⟩
 have HB := hide hb
 clear hb
 go_wp2
 go_ret
 exact ⟨rfl, HB.out⟩
theorem settled_of {T : CC} {n : Nat} {s : Dg.Ch} (X : World) (h : ChaAt T n s X) (hp : PgsOk n s) (L : List Dg.Cl) (hL : ∀ i, i < n → Dg.listC (s.pg i) = L) (hlb : L.length ≤ 1000000) :
  Calls Tryz.prog 24 #[.pointer (some ⟨T.cp, 0, none⟩)] X fun e Y => e = .returned (.bool true) ∧ Below X.heap.size X Y := by
 have hmf : ∀ (fn : Fn) (first cap : Array Value) (w : World), (Instr.makeFunc fn first cap).run Tryz.prog w = .ok (.func fn first cap) w := fun _ _ _ _ => rfl
 have hb := nwB X (.cells #[.pointer (some ⟨T.cp, 0, none⟩)] 67)
 have r1 := heap_alloc_new X (.cells #[.pointer (some ⟨T.cp, 0, none⟩)] 67)
 have hch := h.below hb
 have c1 := iCells0 r1
 obtain ⟨V1, hV1⟩ := hch
 have c0 : (X.alloc (.cells #[.pointer (some ⟨T.cp, 0, none⟩)] 67)).cell? ⟨T.cp, 0, none⟩ = some (.slice (some ⟨T.sb, 0, none⟩) n T.cap) := cell_of_row _ _ 0 _ _ _ hV1.rc
 have HC := hide (settledC_of (X.alloc (.cells #[.pointer (some ⟨T.cp, 0, none⟩)] 67)) ⟨V1, hV1⟩ hp L hL hlb X.heap.size r1)
 have HB := hide hb
 clear h hp hL hlb hb r1 hV1
 go_enter func24, ntmps24
 go_wp2_with fail
 refine HC.out.mono ?_
 rintro e Y ⟨rfl, hb2⟩
 have HBZ := hide (bnext HB.out hb2)
 clear hb2 c0 c1
 go_wp2
 go_ret
 exact ⟨rfl, HBZ.out⟩
theorem seatInfo : (Tryz.prog.info? 109).map (fun i => (i.zero, i.size, i.bytes)) = some (some (.agg #[.pointer none, .int .i64 0]), 2, 16) := by kernel_rfl
theorem seat_src (u : World) (p i : Nat) : Row1 setL (u.alloc (.cells #[.pointer (some ⟨p, 0, none⟩), .int .i64 (i : Int)] 109)) (u.heap.size + 1) (some ⟨u.heap.size, 0, none⟩) [(p, i)] := ⟨fun _ => ⟨u.heap.size, 0, rfl, by omega, fun j x hx => by
 rw [Nat.zero_add, cell_of_row _ _ _ _ _ _ (heap_alloc_new u _), ← Array.getElem?_toList]
 rw [setL.flat_cons, setL.flat_nil, List.append_nil] at hx
 exact hx⟩⟩
structure NewS (B lb cp i : Nat) (P : Nat → Nat → Prop) (vs : Value) (pb mp : Nat → Nat) (q : Nat → Nat → Nat) (N : Nat) (w X : World) : Prop where
 rc : X.heap[cp]? = some (.cells #[vs, .map (some lb)] 107 (0, 0))
 rs : Own1 setL 109 X B vs (seatsL pb i)
 pages : ∀ j, j < i → PageAt X (pb j) (mp j) []
 lines : LinesAt X lb P q N
 que : ∀ j k, P j k → X.heap[q j k]? = some (.cells Rq3 113 (0, 0))
 qinj : ∀ j k j' k', P j k → P j' k' → q j k = q j' k' → j = j' ∧ k = k'
 minj : ∀ j k, j < i → k < i → mp j = mp k → j = k
 lbne : ∀ j, j < i → mp j ≠ lb
 bq : ∀ j k, P j k → B ≤ q j k
 bm : ∀ j, j < i → B ≤ mp j
 bc : B ≤ cp
 bl : B ≤ lb
 up : Below B w X
theorem NewS.top {B lb cp i : Nat} {P : Nat → Nat → Prop} {vs : Value} {pb mp : Nat → Nat} {q : Nat → Nat → Nat} {N : Nat} {w X : World} (h : NewS B lb cp i P vs pb mp q N w X) : B ≤ X.heap.size := Nat.le_of_lt (Nat.lt_of_le_of_lt h.bc (lt_of_block h.rc))
theorem NewS.below {B lb cp i : Nat} {P : Nat → Nat → Prop} {vs : Value} {pb mp : Nat → Nat} {q : Nat → Nat → Nat} {N : Nat} {w X Y : World} (h : NewS B lb cp i P vs pb mp q N w X) (hb : Below X.heap.size X Y) : NewS B lb cp i P vs pb mp q N w Y :=
 ⟨iNext h.rc hb, h.rs.below hb, fun j hj => (h.pages j hj).below hb, h.lines.same (hb.block _ h.lines.lt), fun j k hp => iNext (h.que j k hp) hb, h.qinj, h.minj, h.lbne, h.bq, h.bm, h.bc, h.bl, h.up.trans (hb.mono h.top)⟩
theorem set_tag {X : World} {B g : Nat} {v : Value} {l : List (Nat × Nat)} {o : Obj} (h : Own1 setL 109 X B v l) (hb : X.heap[g]? = some o) (ho : ∀ cs fr, o ≠ .cells cs 109 fr) : v.ownBlock ≠ some g := by
 rcases h.2 with ⟨rfl, _⟩ | ⟨g', cap, cur, rfl, _, hg, _⟩
 ·intro e; cases e
 ·intro e
  injection e with e
  have e : g' = g := e
  rw [e, hb] at hg
  injection hg with hg
  exact ho _ _ hg
theorem NewS.grown_rc {B lb cp i : Nat} {P : Nat → Nat → Prop} {vs : Value} {pb mp : Nat → Nat} {q : Nat → Nat → Nat} {N : Nat} {w X Y : World} (h : NewS B lb cp i P vs pb mp q N w X) (hg : X.grownBy Y vs.ownBlock) : Y.heap[cp]? = some (.cells #[vs, .map (some lb)] 107 (0, 0)) :=
 (hg.block cp (lt_of_block h.rc) (fun e => set_tag h.rs h.rc (fun _ _ e => by injection e with _ e _; exact absurd e (by decide)) e.symm)).trans h.rc
theorem seatsL_snoc (pb : Nat → Nat) (i p : Nat) : seatsL (Dg.upP pb i p) (i + 1) = seatsL pb i ++ [(p, i)] := by
 unfold seatsL
 rw [List.range_succ, List.map_append, List.map_singleton, Dg.upP_at]
 congr 1
 exact List.map_congr_left fun x hx => by rw [Dg.upP_ne _ _ (Nat.ne_of_lt (List.mem_range.1 hx))]
theorem NewS.addPage {B lb cp i : Nat} {P : Nat → Nat → Prop} {vs vs' : Value} {pb mp : Nat → Nat} {q : Nat → Nat → Nat} {N : Nat} {w X Y : World} {p m : Nat} (h : NewS B lb cp i P vs pb mp q N w X) (ho : Own1 setL 109 Y B vs' (seatsL pb i ++ [(p, i)])) (hg : X.grownBy Y vs.ownBlock) (hat : vs'.ownBlock = vs.ownBlock ∨ vs'.ownBlock = some X.heap.size) (hpg : PageAt X p m []) (hm : ∀ j, j < i → mp j ≠ m) (hml : m ≠ lb) (hmB : B ≤ m) :
  NewS B lb cp (i + 1) P vs' (Dg.upP pb i p) (Dg.upP mp i m) q N w (Y.setRow cp #[vs', .map (some lb)]) := by
 have hrcY := h.grown_rc hg
 have hk : ∀ {k : Nat} {o : Obj}, X.heap[k]? = some o → (∀ cs fr, o ≠ .cells cs 109 fr) → (∀ cs fr, o ≠ .cells cs 107 fr) → (Y.setRow cp #[vs', .map (some lb)]).heap[k]? = X.heap[k]? := fun {k o} ho h1 h2 =>
  (setRow_other Y cp k _ (tag_ne ho h.rc (h2 _ _))).trans (hg.block k (lt_of_block ho) (fun e => set_tag h.rs ho h1 e.symm))
 have hpk : ∀ {p m : Nat} {pg : List Dg.Cl}, PageAt X p m pg → PageAt (Y.setRow cp #[vs', .map (some lb)]) p m pg := fun {p m pg} hp => by
  obtain ⟨es, c, hm'⟩ := hp.map.obj
  exact ⟨(hk hp.row (fun _ _ e => by injection e with _ e _; exact absurd e (by decide)) (fun _ _ e => by injection e with _ e _; exact absurd e (by decide))).trans hp.row, hp.map.same (hk hm' (fun _ _ e => by cases e) (fun _ _ e => by cases e))⟩
 obtain ⟨es, kk, hlo⟩ := h.lines.obj
 refine ⟨setRow_heap Y cp _ _ _ _ hrcY, by rw [seatsL_snoc]; exact own_other ho (set_tag ho hrcY (fun _ _ e => by injection e with _ e _; exact absurd e (by decide))) _, fun j hj => ?_, h.lines.same (hk hlo (fun _ _ e => by cases e) (fun _ _ e => by cases e)), fun j k hp => (hk (h.que j k hp) (fun _ _ e => by injection e with _ e _; exact absurd e (by decide)) (fun _ _ e => by injection e with _ e _; exact absurd e (by decide))).trans (h.que j k hp), h.qinj, fun j k hj hk' e => ?_, fun j hj => ?_, h.bq, fun j hj => ?_, h.bc, h.bl, below_setRow (h.up.grown hg h.top (fun k hk => (World.ownsRow.lt h.rs k hk).1)) h.bc _⟩
 ·by_cases e : j = i
  ·subst e
   rw [Dg.upP_at, Dg.upP_at]
   exact hpk hpg
  ·rw [Dg.upP_ne _ _ e, Dg.upP_ne _ _ e]
   exact hpk (h.pages j (by omega))
 ·by_cases e1 : j = i
  ·by_cases e2 : k = i
   ·omega
   ·subst e1
    rw [Dg.upP_at, Dg.upP_ne _ _ e2] at e
    exact absurd e.symm (hm k (by omega))
  ·by_cases e2 : k = i
   ·subst e2
    rw [Dg.upP_ne _ _ e1, Dg.upP_at] at e
    exact absurd e (hm j (by omega))
   ·rw [Dg.upP_ne _ _ e1, Dg.upP_ne _ _ e2] at e
    exact h.minj j k (by omega) (by omega) e
 ·by_cases e : j = i
  ·subst e
   rw [Dg.upP_at]
   exact hml
  ·rw [Dg.upP_ne _ _ e]
   exact h.lbne j (by omega)
 ·by_cases e : j = i
  ·subst e
   rw [Dg.upP_at]
   exact hmB
  ·rw [Dg.upP_ne _ _ e]
   exact h.bm j (by omega)
theorem NewS.addLine {B lb cp i : Nat} {P : Nat → Nat → Prop} {vs : Value} {pb mp : Nat → Nat} {q : Nat → Nat → Nat} {N : Nat} {w X Y : World} (h : NewS B lb cp i P vs pb mp q N w X) {a b c : Nat} (hq : X.heap[c]? = some (.cells Rq3 113 (0, 0))) (hc : ∀ j k, P j k → q j k ≠ c) (hcB : B ≤ c) (hnew : ¬ P a b)
  (hl : LinesAt Y lb (fun i k => P i k ∨ (i = a ∧ k = b)) (fun i k => if i = a ∧ k = b then c else q i k) (N + 1)) (hg : X.grownBy Y (some lb)) :
  NewS B lb cp i (fun i k => P i k ∨ (i = a ∧ k = b)) vs pb mp (fun i k => if i = a ∧ k = b then c else q i k) (N + 1) w Y := by
 obtain ⟨es, kk, hlo⟩ := h.lines.obj
 have hk : ∀ {k : Nat} {cs : Array Value} {t : TypeId} {fr : Nat × Nat}, X.heap[k]? = some (.cells cs t fr) → Y.heap[k]? = X.heap[k]? := fun {k cs t fr} ho => hg.block k (lt_of_block ho) (fun e => by
  injection e with e
  exact tag_ne ho hlo (fun e => by cases e) e)
 refine ⟨(hk h.rc).trans h.rc, own_kept h.rs fun k hk' => ?_, fun j hj => ⟨(hk (h.pages j hj).row).trans (h.pages j hj).row, (h.pages j hj).map.same (hg.block _ (h.pages j hj).map.lt (fun e => h.lbne j hj (by injection e)))⟩, hl, fun j k hp => ?_, fun j k j' k' hp hp' e => ?_, h.minj, h.lbne, fun j k hp => ?_, h.bm, h.bc, h.bl, h.up.grown hg h.top (fun k hk => by injection hk with hk; rw [← hk]; exact h.bl)⟩
 ·rcases h.rs.2 with ⟨e, _⟩ | ⟨g, cap, cur, e, _, hgb, _⟩
  ·rw [e] at hk'
   cases hk'
  ·rw [e] at hk'
   injection hk' with hk'
   rw [← hk']
   exact hk hgb
 ·show Y.heap[if j = a ∧ k = b then c else q j k]? = _
  by_cases e : j = a ∧ k = b
  ·rw [if_pos e]
   exact (hk hq).trans hq
  ·rw [if_neg e]
   have hp' : P j k := hp.resolve_right e
   exact (hk (h.que j k hp')).trans (h.que j k hp')
 ·have e : (if j = a ∧ k = b then c else q j k) = (if j' = a ∧ k' = b then c else q j' k') := e
  by_cases e1 : j = a ∧ k = b
  ·by_cases e2 : j' = a ∧ k' = b
   ·exact ⟨e1.1.trans e2.1.symm, e1.2.trans e2.2.symm⟩
   ·rw [if_pos e1, if_neg e2] at e
    exact absurd e.symm (hc j' k' (hp'.resolve_right e2))
  ·by_cases e2 : j' = a ∧ k' = b
   ·rw [if_neg e1, if_pos e2] at e
    exact absurd e (hc j k (hp.resolve_right e1))
   ·rw [if_neg e1, if_neg e2] at e
    exact h.qinj j k j' k' (hp.resolve_right e1) (hp'.resolve_right e2) e
 ·show B ≤ if j = a ∧ k = b then c else q j k
  by_cases e : j = a ∧ k = b
  ·rw [if_pos e]
   exact hcB
  ·rw [if_neg e]
   exact h.bq j k (hp.resolve_right e)
theorem LinesAt.sub {X : World} {lb N N' : Nat} {P P' : Nat → Nat → Prop} {q : Nat → Nat → Nat} (h : LinesAt X lb P q N) (hN : N ≤ N') (hP : ∀ i k, P' i k → P i k) : LinesAt X lb P' q N' := by
 obtain ⟨D, h1, h2⟩ := h
 exact ⟨D, h1.mono hN, fun i k hi hk hp zd => h2 i k hi hk (hP i k hp) zd⟩
theorem NewS.sub {B lb cp i : Nat} {P P' : Nat → Nat → Prop} {vs : Value} {pb mp : Nat → Nat} {q : Nat → Nat → Nat} {N N' : Nat} {w X : World} (h : NewS B lb cp i P vs pb mp q N w X) (hN : N ≤ N') (hP : ∀ i k, P' i k → P i k) : NewS B lb cp i P' vs pb mp q N' w X :=
 ⟨h.rc, h.rs, h.pages, h.lines.sub hN hP, fun j k hp => h.que j k (hP j k hp), fun j k j' k' hp hp' e => h.qinj j k j' k' (hP j k hp) (hP j' k' hp') e, h.minj, h.lbne, fun j k hp => h.bq j k (hP j k hp), h.bm, h.bc, h.bl, h.up⟩
theorem NewS.done {B lb cp n : Nat} {vs : Value} {pb mp : Nat → Nat} {q : Nat → Nat → Nat} {w X : World} (h : NewS B lb cp n (fun j k => j < n ∧ k < n ∧ j ≠ k) vs pb mp q 1000 w X) (h0 : 0 < n) (h4 : n ≤ 4) : ∃ T : CC, T.B = B ∧ T.cp = cp ∧ ChaAt T n Dg.Ch0 X := by
 obtain ⟨g, cap, sp, hv, _, _, _, _, _, _⟩ := h.rs.form (by rw [seatsL_len]; exact h0)
 rw [seatsL_len] at hv
 subst hv
 refine ⟨⟨B, cp, g, cap, lb, pb, mp, q⟩, rfl, rfl, fun _ _ => .slice none 0 0, h.rc, h.rs, h.pages, h.lines, fun i k hi hk hik => h.que i k ⟨hi, hk, hik⟩, fun i k _ _ _ => ⟨[], SlRow.nil X, rfl, fun j u l hj => (by simp at hj)⟩, (fun i k _ _ _ j hj => by cases hj), (fun i k i' k' _ _ _ _ _ _ _ j hj => by cases hj), fun i k i' k' hi hk hik hi' hk' hik' e => h.qinj i k i' k' ⟨hi, hk, hik⟩ ⟨hi', hk', hik'⟩ e, h.minj, h.lbne, fun i k hi hk hik => h.bq i k ⟨hi, hk, hik⟩, h.bm, h4⟩
attribute [-go_sem] Instr.storeAt in
theorem new_of (n : Nat) (h0 : 0 < n) (h4 : n ≤ 4) (X : World) :
  Calls Tryz.prog 19 #[.int .i64 (n : Int)] X fun e Y => (∃ T : CC, e = .returned (.tuple #[.pointer (some ⟨T.cp, 0, none⟩), .int .i64 0]) ∧ T.B = X.heap.size ∧ ChaAt T n Dg.Ch0 Y) ∧ Below X.heap.size X Y := by
 have hmx := hmxQ
 have hmm := @run_makeMap Tryz.prog
 have n0 : ¬ (n : Int) < 1 := by omega
 have n6 : ¬ (60 : Int) < (n : Int) := by omega
 go_enter func19, ntmps19
 go_upto_region 4 with fail
 have hP0 : NewS X.heap.size X.heap.size (X.heap.size + 1) 0 (fun j k => j < 0 ∧ k < n ∧ j ≠ k) (.slice none 0 0) (fun _ => 0) (fun _ => 0) (fun _ _ => 0) 0 X ((X.alloc (.map #[] 0)).alloc (.cells #[.slice none 0 0, .map (some X.heap.size)] 107)) := by
  have hb : Below X.heap.size X ((X.alloc (.map #[] 0)).alloc (.cells #[.slice none 0 0, .map (some X.heap.size)] 107)) := ((Below.refl X.heap.size X).alloc (Nat.le_refl _) _).alloc (by simp) _
  refine ⟨?_, Own1.nil _ _ _ _, fun j hj => absurd hj (Nat.not_lt_zero _), ⟨_, (World.ownsMap_made X _ _ _).alloc _, fun i k _ _ hp => absurd hp.1 (Nat.not_lt_zero _)⟩, fun j k hp => absurd hp.1 (Nat.not_lt_zero _), fun j k _ _ hp => absurd hp.1 (Nat.not_lt_zero _), fun j k hj => absurd hj (Nat.not_lt_zero _), fun j hj => absurd hj (Nat.not_lt_zero _), fun j k hp => absurd hp.1 (Nat.not_lt_zero _), fun j hj => absurd hj (Nat.not_lt_zero _), Nat.le_succ _, Nat.le_refl _, hb⟩
  have := heap_alloc_new (X.alloc (.map #[] 0)) (.cells #[.slice none 0 0, .map (some X.heap.size)] 107)
  rw [show (X.alloc (.map #[] 0)).heap.size = X.heap.size + 1 by simp] at this
  exact this
 have HP0 := hide hP0
 clear hP0
 generalize (X.alloc (.map #[] 0)).alloc (.cells #[.slice none 0 0, .map (some X.heap.size)] 107) = X1 at *
 generalize X.heap.size + 1 = cp at *
 go_wp2_with fail
 go_loopw [17] (fun iv wr => ∃ i : Nat, i ≤ n ∧ iv = .int .i64 i ∧ Hid (∃ vs pb mp q, NewS X.heap.size X.heap.size cp i (fun j k => j < i ∧ k < n ∧ j ≠ k) vs pb mp q (4 * i) X wr)) (fun iv _ => n - (intOf iv).toNat)
 case atStart => exact ⟨0, Nat.zero_le _, rfl, hide ⟨_, _, _, _, HP0.out⟩⟩
 case round =>
  clear HP0
  obtain ⟨i, hi, rfl, HI⟩ := hrel
  by_cases hlt : i < n
  ·obtain ⟨vs, pb, mp, q, hS⟩ := HI.out
   obtain ⟨A, c, hvs, _, _⟩ := hS.rs.row
   obtain ⟨ns, hns⟩ : ∃ ns, (seatsL pb i).length = ns := ⟨_, rfl⟩
   rw [hns] at hvs
   subst hvs
   have HS := hide hS
   clear hS hns HI
   go_upto_region 7 with fail
   refine wp_region_noPanic ?_
   refine wp_region_L (fun Z : World => Z.heap[cp]? = some (.cells #[.slice A ns c, .map (some X.heap.size)] 107 (0, 0))) 12 hmx ?_
   have HS0 := hide (HS.out.below (Below.refl wr.heap.size wr).drew)
   have hH0 : (fun Z : World => Z.heap[cp]? = some (.cells #[.slice A ns c, .map (some X.heap.size)] 107 (0, 0))) wr.drew := HS0.out.rc
   clear HS
   generalize wr.drew = u0 at *
   refine tU 0 15 hH0 rfl ?_
   refine tU 1 15 hH0 rfl ?_
   refine tU 2 15 hH0 rfl ?_
   refine tU 3 15 hH0 rfl ?_
   refine tU 4 15 hH0 rfl ?_ (by intro wS hS; have f0 : wS.cell? ⟨cp, 0, none⟩ = some (.slice A ns c) := cell_of_row _ _ 0 _ _ _ hS; go_simp; (try with_reducible rfl))
   refine tU 6 15 hH0 rfl ?_
   refine oY 5 fun K hK => ?_
   go_simp
   refine (pageNew_of u0).mono ?_
   rintro e u1 ⟨p, m, rfl, hp0, hm0, hpg, hx⟩
   have hH1 := iNext hH0 hx
   have HPG := hide hpg; have HM0 := hide hm0; have HS1 := hide (HS0.out.below hx)
   refine hK.out _ _ (Or.inr hH1) ?_
   clear hK K hpg hx hp0 hm0
   try simp only [Act.put, pu]
   refine tU 7 15 hH1 rfl ?_
   refine oY 8 fun K hK => ?_
   go_simp
   have hbn := nwB u1 (.cells #[.pointer (some ⟨p, 0, none⟩), .int .i64 (i : Int)] 109)
   have hH2 := iNext hH1 hbn
   have HRB := hide (seat_src u1 p i)
   have HPG2 := hide (HPG.out.below hbn)
   have HS2 := hide (HS1.out.below hbn)
   refine hK.out _ _ (Or.inr hH2) ?_
   clear hK K hbn
   generalize u1.alloc (.cells #[.pointer (some ⟨p, 0, none⟩), .int .i64 (i : Int)] 109) = u2 at *
   try simp only [Act.put, pu]
   refine oY 9 fun K hK => ?_
   refine wp_app1 (L := setL) (.tmp 24) (.tmp 28) 105 109 (.agg #[.pointer none, .int .i64 0]) 16 rfl underlying105 seatInfo rfl (by decide) X.heap.size (u1.heap.size + 1) _ (seatsL pb i) [(p, i)] rfl HS2.out.rs (some ⟨u1.heap.size, 0, none⟩) 1 1 rfl rfl HRB.out (by rw [seatsL_len]; omega) (by decide) HS2.out.top ?_
   intro v3 u3 h1 h2 h3 h4
   have hH3 := HS2.out.grown_rc h3
   obtain ⟨A3, c3, hv3, _, _⟩ := h1.row
   obtain ⟨nv, hnv⟩ : ∃ nv, (seatsL pb i ++ [(p, i)]).length = nv := ⟨_, rfl⟩
   rw [hnv] at hv3
   subst hv3
   have HN := hide (HS2.out.addPage h1 h3 h4 HPG2.out (fun j hj e => by have q1 := HM0.out; have q2 := (HS0.out.pages j hj).map.lt; omega) (fun e => by have q1 := HM0.out; have q2 := HS0.out.lines.lt; omega) (Nat.le_trans HS0.out.top HM0.out))
   refine hK.out _ _ (Or.inr hH3) ?_
   clear hK K h1 h2 h3 h4 hnv
   try simp only [Act.put, pu]
   refine tU 10 15 hH3 rfl ?_
   refine tU 11 15 hH3 rfl ?_
   refine oY 12 fun K hK => ?_
   have hst := store_part (ty := 105) u3 cp 0 #[.slice A ns c, .map (some X.heap.size)] (.slice A3 nv c3) #[.slice A3 nv c3, .map (some X.heap.size)] hH3 (by kernel_rfl) (show 1 ≤ 2 by decide) (one_slice _ _ _) rfl
   go_simp
   refine hK.out _ _ (Or.inl rfl) ?_
   clear hK K hst
   try simp only [Act.put, pu]
   refine dnY ?_
   clear hH0 hH1 hH2 hH3
   generalize u3.setRow cp #[.slice A3 nv c3, .map (some X.heap.size)] = u4 at *
   have HL0 := hide (⟨_, _, _, _, HN.out.sub (N' := 4 * i + 0) (Nat.le_refl _) (fun j k (hp : (j < i ∧ k < n ∧ j ≠ k) ∨ (j = i ∧ k < 0 ∧ k ≠ i)) => hp.elim id (fun h => absurd h.2.1 (Nat.not_lt_zero _)))⟩ : ∃ vs pb mp q, NewS X.heap.size X.heap.size cp (i + 1) (fun j k => (j < i ∧ k < n ∧ j ≠ k) ∨ (j = i ∧ k < 0 ∧ k ≠ i)) vs pb mp q (4 * i + 0) X u4)
   clear HN HM0 HS0 HRB HPG HPG2 HS1 HS2
   go_wp2_with fail
   go_loopw [33] (fun kv wr => ∃ k : Nat, k ≤ n ∧ kv = .int .i64 k ∧ Hid (∃ vs pb mp q, NewS X.heap.size X.heap.size cp (i + 1) (fun j k' => (j < i ∧ k' < n ∧ j ≠ k') ∨ (j = i ∧ k' < k ∧ k' ≠ i)) vs pb mp q (4 * i + k) X wr)) (fun kv _ => n - (intOf kv).toNat)
   case atStart => exact ⟨0, Nat.zero_le _, rfl, HL0⟩
   case round =>
    clear HL0
    obtain ⟨k, hk, rfl, HK⟩ := hrel
    by_cases hkn : k < n
    ·by_cases hki : k = i
     ·have hbn : ((k : Int) != (i : Int)) = false := by simp [hki]
      have HN1 := hide (show ∃ vs pb mp q, NewS X.heap.size X.heap.size cp (i + 1) (fun j k' => (j < i ∧ k' < n ∧ j ≠ k') ∨ (j = i ∧ k' < k + 1 ∧ k' ≠ i)) vs pb mp q (4 * i + (k + 1)) X wr by
       obtain ⟨vs, pb, mp, q, h⟩ := HK.out
       exact ⟨vs, pb, mp, q, h.sub (by omega) (fun j k' hp => hp.elim .inl (fun h => .inr ⟨h.1, by omega, h.2.2⟩))⟩)
      clear hki HK
      go_wp2_with fail
      go_roundw
      case rel => exact ⟨k + 1, by omega, by go_num, HN1⟩
      case measure => simp [intOf]; omega
     ·have hbn : ((k : Int) != (i : Int)) = true := by simp; omega
      obtain ⟨vs, pb, mp, q, hS⟩ := HK.out
      have hbq := nwB wr (.cells Rq3 113)
      have hS1 := hS.below hbq
      have hq1 := heap_alloc_new wr (.cells Rq3 113)
      obtain ⟨w5, hrun, hl5, hg5⟩ := hS1.lines.lay (by omega) (show i < 4 by omega) (show k < 4 by omega) wr.heap.size
      have hS5 := hS1.addLine hq1 (fun j k' hp e => by have := lt_of_block (hS.que j k' hp); omega) hS.top (fun hp => hp.elim (fun h => by omega) (fun h => by omega)) hl5 hg5
      have HN1 := hide (show ∃ vs pb mp q, NewS X.heap.size X.heap.size cp (i + 1) (fun j k' => (j < i ∧ k' < n ∧ j ≠ k') ∨ (j = i ∧ k' < k + 1 ∧ k' ≠ i)) vs pb mp q (4 * i + (k + 1)) X w5 from
       ⟨vs, pb, mp, _, hS5.sub (by omega) (fun j k' hp => hp.elim (fun h => .inl (.inl h)) (fun h => by
        by_cases e : k' = k
        ·exact .inr ⟨h.1, e⟩
        ·exact .inl (.inr ⟨h.1, by omega, h.2.2⟩)))⟩)
      have c1 : wr.cell? ⟨cp, 1, none⟩ = some (.map (some X.heap.size)) := cell_of_row _ _ 1 _ _ _ hS.rc
      clear hS hbq hS1 hq1 hl5 hg5 hS5 HK
      go_wp2_with fail
      clear hrun c1
      go_roundw
      case rel => exact ⟨k + 1, by omega, by go_num, HN1⟩
      case measure => simp [intOf]; omega
    ·obtain rfl : k = n := by omega
     have HN1 := hide (show ∃ vs pb mp q, NewS X.heap.size X.heap.size cp (i + 1) (fun j k' => j < i + 1 ∧ k' < k ∧ j ≠ k') vs pb mp q (4 * (i + 1)) X wr by
      obtain ⟨vs, pb, mp, q, h⟩ := HK.out
      exact ⟨vs, pb, mp, q, h.sub (by omega) (fun j k' hp => by
       by_cases e : j = i
       ·exact .inr ⟨e, hp.2.1, fun e2 => hp.2.2 (e.trans e2.symm)⟩
       ·exact .inl ⟨by omega, hp.2⟩)⟩)
     clear HK
     go_wp2_with fail
     go_roundw
     case rel => exact ⟨i + 1, by omega, by go_num, HN1⟩
     case measure => simp [intOf]; omega
  ·obtain rfl : i = n := by omega
   obtain ⟨vs, pb, mp, q, hS⟩ := HI.out
   have HB := hide hS.up
   obtain ⟨T, hT1, hT2, hT3⟩ := (hS.sub (N' := 1000) (by omega) (fun _ _ h => h)).done h0 h4
   have HT := hide (And.intro hT1 hT3)
   subst hT2
   clear hS hT1 hT3 HI
   go_wp2
   go_ret2
   exact ⟨⟨T, rfl, HT.out⟩, HB.out⟩
namespace Dg
def MsgL (s : Ch) : Prop := ∀ a b, ∀ m ∈ s.ln a b, m.length ≤ 64
theorem MsgL.zero : MsgL Ch0 := fun a b m h => by cases h
theorem MsgL.withC {s : Ch} (h : MsgL s) (i : Nat) (pg : List Cl) : MsgL (withC s i pg) := h
theorem MsgL.tell {s : Ch} (h : MsgL s) (n i : Nat) (x : Cl) : MsgL (tellC n s i x) := fun a b m hm => by
 have hm : m ∈ (if a = i ∧ b ≠ i ∧ b < n then s.ln a b ++ [[x]] else s.ln a b) := hm
 split at hm
 ·rcases List.mem_append.1 hm with hm | hm
  ·exact h a b m hm
  ·rw [List.mem_singleton.1 hm]
   exact (by decide : 1 ≤ 64)
 ·exact h a b m hm
theorem MsgL.upL {s : Ch} (h : MsgL s) (x y : Nat) {l : List (List Cl)} (hl : ∀ m ∈ l, m.length ≤ 64) : MsgL (upL s x y l) := fun a b m hm => by
 have hm : m ∈ (if a = x ∧ b = y then l else s.ln a b) := hm
 split at hm
 ·exact hl m hm
 ·exact h a b m hm
theorem MsgL.propose {s : Ch} (h : MsgL s) (n i : Nat) (after : Sp) (p : Pt) : MsgL (proposeC n s i after p) := by
 unfold proposeC
 split
 ·exact h
 ·split
  ·exact h
  ·split
   ·exact h
   ·exact (h.withC i _).tell n i _
theorem MsgL.withdraw {s : Ch} (h : MsgL s) (n i : Nat) (d : Sp) : MsgL (withdrawC n s i d) := by
 unfold withdrawC
 split
 ·exact h
 ·split
  ·exact h
  ·exact (h.withC i _).tell n i _
theorem MsgL.act {s : Ch} (h : MsgL s) (n : Nat) (a : Ac) : MsgL (actC n s a) := by
 unfold actC
 split
 ·exact h.withdraw _ _ _
 ·exact h.propose _ _ _ _
theorem acts_msg (n : Nat) : ∀ (l : List Ac) (s : Ch), MsgL s → MsgL (l.foldl (actC n) s)
 | [], _, h => h
 | a :: l, s, h => acts_msg n l _ (h.act n a)
theorem MsgL.deliver {s : Ch} (h : MsgL s) (a b : Nat) (lost : Bool) : MsgL (deliverC s a b lost) := by
 unfold deliverC
 split
 ·exact h
 ·cases hl : s.ln a b with
  | nil => exact h
  | cons m r =>
   have hr : ∀ x ∈ r, x.length ≤ 64 := fun x hx => h a b x (by rw [hl]; exact List.mem_cons_of_mem _ hx)
   show MsgL (if lost = true then Dg.upL s a b r else Dg.withC (Dg.upL s a b r) b (recvC (s.pg b) m))
   split
   ·exact h.upL a b hr
   ·exact (h.upL a b hr).withC _ _
theorem MsgL.again {s : Ch} (h : MsgL s) (a b : Nat) (hl : (listC (s.pg a)).length ≤ 64) : MsgL (againC s a b) := by
 unfold againC
 split
 ·exact h
 ·refine h.upL a b fun m hm => ?_
  rcases List.mem_append.1 hm with hm | hm
  ·exact h a b m hm
  ·rw [List.mem_singleton.1 hm]
   exact hl
theorem ActsI.pg_len {n k : Nat} {s : Ch} (h : ActsI n k s) {i : Nat} (hi : i < n) : (s.pg i).length ≤ k := by
 have h1 := uni_up hi s.pg []
 have h2 := h.few
 simp only [List.length_nil] at h1
 omega
structure GoC (n : Nat) (P : Nat → List Cl) (U : List Cl) (k : Nat) (s : Ch) : Prop where
 ways : WaysI n P U k s
 msg : MsgL s
theorem GoC.pg_ok {n k : Nat} {P : Nat → List Cl} {U : List Cl} {s : Ch} (hU : UniC U) (h : GoC n P U k s) {i : Nat} (hi : i < n) : (∀ c ∈ s.pg i, clOk c = true) ∧ (s.pg i).length < 64 := by
 have h1 := (h.ways.pg i hi).1
 refine ⟨fun c hc => (h1.org c hc).ok hU, ?_⟩
 have := h1.len
 have := hU.few
 omega
theorem GoC.list_len {n k : Nat} {P : Nat → List Cl} {U : List Cl} {s : Ch} (hU : UniC U) (h : GoC n P U k s) {i : Nat} (hi : i < n) : (listC (s.pg i)).length ≤ 64 := by
 have h1 := listC_len (h.ways.pg i hi).1.nd (h.pg_ok hU hi).1
 have h2 := (h.pg_ok hU hi).2
 omega
theorem GoC.again {n k : Nat} {P : Nat → List Cl} {U : List Cl} {s : Ch} (hU : UniC U) (h : GoC n P U k s) {a : Nat} (b : Nat) (ha : a < n) : GoC n P U (k + 1) (againC s a b) := ⟨again_ok h.ways ha, h.msg.again a b (h.list_len hU ha)⟩
theorem GoC.deliver {n k : Nat} {P : Nat → List Cl} {U : List Cl} {s : Ch} (hU : UniC U) (h : GoC n P U k s) {a b : Nat} (hb : b < n) (lost : Bool) : GoC n P U k (deliverC s a b lost) := ⟨(deliver_ok hU h.ways hb lost).1, h.msg.deliver a b lost⟩
theorem GoC.way {n k : Nat} {P : Nat → List Cl} {U : List Cl} {s : Ch} (hU : UniC U) (h : GoC n P U k s) (hn : 0 < n) (w : Wy) : GoC n P U (k + 1) (wayC n s w) := by
 unfold wayC
 split
 ·exact h.again hU _ (Nat.mod_lt _ hn)
 ·have := h.deliver hU (a := w.src % n) (Nat.mod_lt w.dst hn) w.lost
  exact ⟨this.ways.mono (Nat.le_succ k), this.msg⟩
theorem GoC.mono {n k k' : Nat} {P : Nat → List Cl} {U : List Cl} {s : Ch} (h : GoC n P U k s) (hk : k ≤ k') : GoC n P U k' s := ⟨h.ways.mono hk, h.msg⟩
theorem GoC.acts {n : Nat} (hn : 0 < n) (l : List Ac) (hl : l.length ≤ 20) : UniC (uniC n (actsC n l).pg) ∧ GoC n (actsC n l).pg (uniC n (actsC n l).pg) l.length (actsC n l) := by
 have h := acts_ok n hn l
 exact ⟨acts_uni h (by omega), acts_ways h, acts_msg n l Ch0 MsgL.zero⟩
end Dg
theorem acts_next (n : Nat) (l : List Dg.Ac) (k : Nat) (hk : k < l.length) : Dg.actsC n (l.take (k + 1)) = Dg.actC n (Dg.actsC n (l.take k)) l[k] := by
 unfold Dg.actsC
 rw [List.take_succ_eq_append_getElem hk, List.foldl_append]
 rfl
def acL : Lay Dg.Ac := ⟨fun a => .int .u8 (a.seat : Int) :: .int .u8 (a.pick : Int) :: .bool a.back :: (ptC a.patch).toList, 18, fun _ => rfl, fun a u hu => by
 rcases List.mem_cons.1 hu with rfl | hu
 ·rfl
 ·rcases List.mem_cons.1 hu with rfl | hu
  ·rfl
  ·rcases List.mem_cons.1 hu with rfl | hu
   ·rfl
   ·exact ptL.one a.patch u hu⟩
def AcW (a : Dg.Ac) : Prop := a.seat < 256 ∧ a.pick < 256
theorem act_cells {X : World} {B b off : Nat} {l : List Dg.Ac} (h : Row1 acL X B (some ⟨b, off, none⟩) l) {k : Nat} (hk : k < l.length) : X.cell? ⟨b, off + k * 18, none⟩ = some (.int .u8 (l[k].seat : Int)) ∧ X.cell? ⟨b, off + k * 18 + 1, none⟩ = some (.int .u8 (l[k].pick : Int)) ∧ X.cell? ⟨b, off + k * 18 + 2, none⟩ = some (.bool l[k].back) ∧ X.rangeAt b (off + k * 18 + 3) (ptC l[k].patch).toList := by
 obtain ⟨b', off', e, _, hc⟩ := h.get hk
 injection e with e
 injection e with e1 e2 _
 subst e1 e2
 refine ⟨hc 0 _ (show 0 < 18 by decide) rfl, hc 1 _ (show 1 < 18 by decide) rfl, hc 2 _ (show 2 < 18 by decide) rfl, fun j v hj => ?_⟩
 have hj15 : j < 15 := (List.getElem?_eq_some_iff.1 hj).1
 have := hc (3 + j) v (show 3 + j < 18 by omega) (by
  show (Value.int .u8 (l[k].seat : Int) :: .int .u8 (l[k].pick : Int) :: .bool l[k].back :: (ptC l[k].patch).toList)[3 + j]? = some v
  rw [show 3 + j = j + 1 + 1 + 1 by omega, List.getElem?_cons_succ, List.getElem?_cons_succ, List.getElem?_cons_succ]
  exact hj)
 rw [Nat.add_assoc]
 exact this
theorem row1_at {α : Type} {L : Lay α} {X : World} {B : Nat} {A : Option Addr} {l : List α} (h : Row1 L X B A l) {k : Nat} (hk : k < l.length) : ∃ b off, A = some ⟨b, off, none⟩ := by
 obtain ⟨b, off, e, _⟩ := h.at_ (by omega)
 exact ⟨b, off, e⟩
attribute [-go_sem] Instr.storeAt in
theorem acts_of {T : CC} {n : Nat} (X : World) (h : ChaAt T n Dg.Ch0 X) (hn0 : 0 < n) (l : List Dg.Ac) (hl : l.length ≤ 20) (hw : ∀ a ∈ l, AcW a) (A : Option Addr) (nl cl : Nat) (hnl : l.length = nl) (hr : Row1 acL X T.B A l) :
  Calls Tryz.prog 20 #[.pointer (some ⟨T.cp, 0, none⟩), .int .i64 (n : Int), .slice A nl cl] X fun e Y => e = .returned (.tuple #[]) ∧ ChaAt T n (Dg.actsC n l) Y ∧ Below T.B X Y := by
 have hmx := hmxQ
 have hn4 := h.n4
 have htop := h.top hn0
 have HX := hide h; have HL := hide hl; have HW := hide hw; have HN := hide hnl; have HR := hide hr; have HTP := hide htop
 have hnb : nl ≤ 20 := by omega
 clear h hl hw hnl hr htop
 go_enter func20, ntmps20
 go_wp2_with fail
 go_loopw [6] (fun iv wr => ∃ k : Nat, k ≤ nl ∧ iv = .int .i64 k ∧ Hid (ChaAt T n (Dg.actsC n (l.take k)) wr ∧ Below T.B X wr)) (fun iv _ => nl - (intOf iv).toNat)
 case atStart => exact ⟨0, Nat.zero_le _, rfl, hide ⟨HX.out, Below.refl _ _⟩⟩
 case round =>
  obtain ⟨k, hk, rfl, HK⟩ := hrel
  by_cases hlt : k < nl
  ·have hkl : k < l.length := by rw [HN.out]; exact hlt
   obtain ⟨b, off, rfl⟩ := row1_at HR.out hkl
   obtain ⟨a, ha⟩ : ∃ a, l[k] = a := ⟨_, rfl⟩
   have haw := HW.out a (by rw [← ha]; exact List.getElem_mem hkl)
   have hac := act_cells (HR.out.below HK.out.2) hkl
   rw [ha] at hac
   obtain ⟨f0, f1, f2, hrg⟩ := hac
   obtain ⟨i, hi⟩ : ∃ i, a.seat % n = i := ⟨_, rfl⟩
   have hin : i < n := by rw [← hi]; exact Nat.mod_lt _ hn0
   have hsd : ((a.seat : Int) % (n : Int)) = (i : Int) := by rw [← hi]; exact (Int.natCast_emod ..).symm
   have q1 : (0 : Int) ≤ (a.seat : Int) := by omega
   have q2 : (a.seat : Int) < 256 := by have := haw.1; omega
   have q3 : (0 : Int) < (n : Int) := by omega
   obtain ⟨sx, hsx⟩ : ∃ sx, Dg.actsC n (l.take k) = sx := ⟨_, rfl⟩
   have HA := hide ha; have HAW := hide haw; have HRG := hide hrg; have HSX := hide hsx; have HI := hide hi; have HF1 := hide f1; have HF2 := hide f2
   have hact : Dg.ActsI n k sx := by
    have h1 := Dg.acts_ok n hn0 (l.take k)
    rw [hsx, List.length_take, Nat.min_eq_left (Nat.le_of_lt hkl)] at h1
    exact h1
   have hpok : PgsOk n sx := fun j hj => ⟨fun c hc => (hact.ok j hj c hc).1, by have := hact.pg_len hj; omega⟩
   have hpl : ∀ j, j < n → (sx.pg j).length ≤ 1000 := fun j hj => by have := hact.pg_len hj; omega
   have hln : ∀ x y, (sx.ln x y).length ≤ 1000 := fun x y => by have := hact.len x y; omega
   have hck : ChaAt T n sx wr := by rw [← hsx]; exact HK.out.1
   have HPO := hide hpok; have HPL := hide hpl; have HLN := hide hln; have HCK := hide hck; have HBK := hide HK.out.2
   clear ha haw hrg hsx hi hact hpok hpl hln hck f1 f2 HK
   have HSD := hide hsd
   clear hsd
   go_upto_region 4 with fail
   rw [HSD.out]
   clear f0
   go_wp2_with fail
   refine (view_of wr HCK.out HPO.out hin).mono ?_
   rintro e X2 ⟨⟨v, rfl, hv⟩, hb2⟩
   obtain ⟨L, hL⟩ : ∃ L, Dg.listC (sx.pg i) = L := ⟨_, rfl⟩
   rw [hL] at hv
   obtain ⟨A2, c2, hve⟩ := own_q hv
   obtain ⟨nv, hnv⟩ : ∃ nv, L.length = nv := ⟨_, rfl⟩
   rw [hnv] at hve
   subst hve
   have hst := store_new (ty := 49) (T := 49) X2 #[.int .i64 0, .int .i64 0] #[.int .i64 0, .int .i64 0] (by kernel_rfl) rfl (by simp [Value.oneCell'])
   have hbn := nwB X2 (.cells #[.int .i64 0, .int .i64 0] 49)
   have hb3 : Below wr.heap.size wr (X2.alloc (.cells #[.int .i64 0, .int .i64 0] 49)) := hb2.trans (hbn.mono hb2.size)
   have r9 := heap_alloc_new X2 (.cells #[.int .i64 0, .int .i64 0] 49)
   have HV := hide (hv.below hbn); have HR9 := hide r9; have HB3 := hide hb3; have HL2 := hide hL; have HNV := hide hnv
   have HC3 := hide (HCK.out.below hb3)
   have HB4 := hide (HBK.out.trans (hb3.mono (HCK.out.top hin)))
   have HB2X := hide (Nat.le_trans HBK.out.size hb2.size)
   clear hv hb2 hbn hb3 r9 hL hnv HCK HBK
   go_upto_region 6 with fail
   clear hst
   generalize X2.alloc (.cells #[.int .i64 0, .int .i64 0] 49) = X3 at *
   have hP9 : ∃ P, Dg.pickC L a.pick = P ∧ SpW P := by
    refine ⟨_, rfl, ?_⟩
    unfold Dg.pickC
    split
    ·rename_i hc
     have hj : (a.pick - 1) % L.length < L.length := Nat.mod_lt _ hc.2
     rw [List.getElem?_eq_getElem hj]
     have hm : L[(a.pick - 1) % L.length] ∈ Dg.listC (sx.pg i) := by rw [HL2.out]; exact List.getElem_mem hj
     exact sp_w (Dg.clOk_id ((HPO.out i hin).1 _ (Dg.walkC_mem hm)))
    ·exact sp0_w
   obtain ⟨P, hP, hPw⟩ := hP9
   have HP := hide hP; have HPW := hide hPw
   clear hP hPw
   have hT9 : T.B ≤ X2.heap.size := Nat.le_trans HTP.out (by have := HB2X.out; omega)
   have p1 : X3.cell? ⟨b, off + k * 18 + 1, none⟩ = some (.int .u8 (a.pick : Int)) := by
    have := (act_cells (HR.out.below HB4.out) hkl).2.1
    rwa [HA.out] at this
   have hcs : (0 < a.pick ∧ 0 < nv) ∨ ¬ 0 < a.pick ∨ (0 < a.pick ∧ ¬ 0 < nv) := by omega
   rcases hcs with ⟨hc1, hc2⟩ | hc1 | ⟨hc1, hc2⟩
   case' inl =>
    have hjl : (a.pick - 1) % nv < L.length := by rw [HNV.out]; exact Nat.mod_lt _ hc2
    obtain ⟨g, rfl, hgl, hrg3⟩ := own_range HV.out hjl
    have hE : (((a.pick : Int) - 1) % (nv : Int)) = (((a.pick - 1) % nv : Nat) : Int) := by
     rw [Int.natCast_emod]
     congr 1
     omega
    have hPc : P = L[(a.pick - 1) % nv].id := by
     rw [← HP.out]
     unfold Dg.pickC
     rw [HNV.out, if_pos ⟨hc1, hc2⟩, List.getElem?_eq_getElem hjl]
     rfl
    obtain ⟨cx, hcx⟩ : ∃ cx, L[(a.pick - 1) % nv] = cx := ⟨_, rfl⟩
    rw [hcx] at hPc hrg3
    have e0 : (0 : Int) < (a.pick : Int) := by omega
    have e1 : (0 : Int) < (nv : Int) := by omega
    have e2 : (0 : Int) ≤ ((a.pick : Int) - 1) % (nv : Int) := by rw [hE]; omega
    have e3 : ((a.pick : Int) - 1) % (nv : Int) < (nv : Int) := Int.emod_lt_of_pos _ e1
    have e4 : (1 : Int) ≤ (a.pick : Int) := by omega
    have e5 : (a.pick : Int) < 256 := by have := HAW.out.2; omega
    have k0 : X3.cell? ⟨g, (a.pick - 1) % nv * 20, none⟩ = some (.int .i64 cx.id.seat) := hrg3 0 _ rfl
    have k1 : X3.cell? ⟨g, (a.pick - 1) % nv * 20 + 1, none⟩ = some (.int .i64 cx.id.count) := hrg3 1 _ rfl
    have hst := store_part (ty := 49) X3 X2.heap.size 0 #[.int .i64 0, .int .i64 0] (.agg #[.int .i64 cx.id.seat, .int .i64 cx.id.count]) #[.int .i64 cx.id.seat, .int .i64 cx.id.count] HR9.out (by kernel_rfl) (Nat.le_refl _) (one_st _ _) rfl
    have HR10 := hide (show (X3.setRow X2.heap.size #[.int .i64 cx.id.seat, .int .i64 cx.id.count]).heap[X2.heap.size]? = some (.cells #[.int .i64 P.seat, .int .i64 P.count] 49 (0, 0)) by rw [hPc]; exact setRow_heap X3 X2.heap.size _ _ _ _ HR9.out)
    have HC10 := hide (HC3.out.setSp HR9.out #[.int .i64 cx.id.seat, .int .i64 cx.id.count])
    have HB10 := hide (below_setRow HB4.out (g := X2.heap.size) hT9 #[.int .i64 cx.id.seat, .int .i64 cx.id.count])
    clear hjl hrg3 hE hPc hcx
    go_upto_region 8 with fail
    clear hst k0 k1 e0 e1 e2 e3 e4 e5 p1
    generalize X3.setRow X2.heap.size #[.int .i64 cx.id.seat, .int .i64 cx.id.count] = X4 at *
    clear HR9 HC3 HB4 HV
   case' inr.inl =>
    have e0 : ¬ (0 : Int) < (a.pick : Int) := by omega
    have hPc : P = Dg.Sp0 := by
     rw [← HP.out]
     unfold Dg.pickC
     exact if_neg (fun h => hc1 h.1)
    have HR10 := hide (show X3.heap[X2.heap.size]? = some (.cells #[.int .i64 P.seat, .int .i64 P.count] 49 (0, 0)) by rw [hPc]; exact HR9.out)
    have HC10 := hide HC3.out
    have HB10 := hide HB4.out
    clear hPc
    go_upto_region 8 with fail
    clear e0 p1 HR9 HC3 HB4 HV
    obtain ⟨X4, hX4⟩ : ∃ X4, X4 = X3 := ⟨_, rfl⟩
    subst hX4
   case' inr.inr =>
    have e0 : (0 : Int) < (a.pick : Int) := by omega
    have e1 : ¬ (0 : Int) < (nv : Int) := by omega
    have hPc : P = Dg.Sp0 := by
     rw [← HP.out]
     unfold Dg.pickC
     exact if_neg (fun h => hc2 (by rw [← HNV.out]; exact h.2))
    have HR10 := hide (show X3.heap[X2.heap.size]? = some (.cells #[.int .i64 P.seat, .int .i64 P.count] 49 (0, 0)) by rw [hPc]; exact HR9.out)
    have HC10 := hide HC3.out
    have HB10 := hide HB4.out
    clear hPc
    go_upto_region 8 with fail
    clear e0 e1 p1 HR9 HC3 HB4 HV
    obtain ⟨X4, hX4⟩ : ∃ X4, X4 = X3 := ⟨_, rfl⟩
    subst hX4
   all_goals
    have hrw := HR.out.below HB10.out
    have hac := act_cells hrw hkl
    rw [HA.out] at hac
    have f2 := hac.2.2.1
    have hrg := hac.2.2.2
    have HSE := hide (show Dg.actsC n (l.take (k + 1)) = Dg.actC n sx a by rw [acts_next n l k hkl, HA.out, HSX.out])
    have k0 : X4.cell? ⟨X2.heap.size, 0, none⟩ = some (.int .i64 P.seat) := cell_of_row _ _ 0 _ _ _ HR10.out
    have k1 : X4.cell? ⟨X2.heap.size, 1, none⟩ = some (.int .i64 P.count) := cell_of_row _ _ 1 _ _ _ HR10.out
    have HRG := hide hrg
    clear hrw hac hrg
    cases hbk : a.back with
    | true =>
     rw [hbk] at f2
     have HAC := hide (show Dg.actC n sx a = Dg.withdrawC n sx i P by
      unfold Dg.actC
      rw [if_pos hbk, HI.out, HL2.out, HP.out])
     clear hbk
     go_wp2_with fail
     refine (withdraw_of X4 HC10.out HPO.out HPL.out HLN.out hin P.seat P.count HPW.out).mono ?_
     rintro e Y ⟨⟨rv, rfl⟩, hcy, hby⟩
     have HN1 := hide (⟨by rw [HSE.out, HAC.out]; exact hcy, HB10.out.trans hby⟩ : ChaAt T n (Dg.actsC n (l.take (k + 1))) Y ∧ Below T.B X Y)
     clear hcy hby f2 k0 k1
     go_wp2_with fail
     go_roundw
     case rel => exact ⟨k + 1, by omega, by go_num, HN1⟩
     case measure => simp [intOf]; omega
    | false =>
     rw [hbk] at f2
     have HAC := hide (show Dg.actC n sx a = Dg.proposeC n sx i P a.patch by
      unfold Dg.actC
      rw [if_neg (by rw [hbk]; decide), HI.out, HL2.out, HP.out])
     clear hbk
     go_upto_region 10 with fail
     clear f2 k0 k1
     refine wp_region_noPanic ?_
     refine wp_region_L (Below X4.drew.heap.size X4.drew) 8 hmx ?_
     have hdr := (Below.refl X4.heap.size X4).drew
     have hrd := iNext HR10.out hdr
     have HBD := hide HB10.out.drew
     have HCD := hide (HC10.out.below hdr)
     have htx : T.B ≤ X4.drew.heap.size := HCD.out.top hin
     have HRK := hide (fun Z (hZ : Below X4.drew.heap.size X4.drew Z) => iNext hrd hZ)
     have HRZ := hide (fun Z (hZ : Below X4.drew.heap.size X4.drew Z) => (by
      have h9 := (act_cells (HR.out.below (HBD.out.trans (hZ.mono htx))) hkl).2.2.2
      rw [HA.out] at h9
      exact h9 : Z.rangeAt b (off + k * 18 + 3) (ptC a.patch).toList))
     have hH0 := Below.refl X4.drew.heap.size X4.drew
     clear hdr hrd
     generalize X4.drew = u0 at *
     refine tU 0 11 hH0 rfl ?_
     refine tU 1 11 hH0 rfl ?_
     refine tU 2 11 hH0 rfl ?_ (by intro wS hS; have f0 := cell_of_row _ _ 0 _ _ _ (HRK.out wS hS); have f1 := cell_of_row _ _ 1 _ _ _ (HRK.out wS hS); go_simp; (try with_reducible rfl))
     refine tU 3 11 hH0 rfl ?_
     refine tU 4 11 hH0 rfl ?_
     refine tU 5 11 hH0 rfl ?_
     refine tU 6 11 hH0 rfl ?_
     refine tkV 7 11 (.agg (ptC a.patch)) rfl (by exact yieldsIf_load_mid (by rfl) 53 (.tmp 68) rfl b (off + k * 18 + 3) rfl (ptC a.patch).toList _ (fun X hX => HRZ.out X hX) underlying53 rfl (by kernel_rfl)) hH0 ?_
     simp only [Act.put, pu]
     refine oY 8 fun K hK => ?_
     go_simp
     refine (propose_of u0 HCD.out HPO.out HPL.out HLN.out hin P.seat P.count a.patch).mono ?_
     rintro e Y ⟨⟨rv, rfl⟩, hcy, hby⟩
     refine hK.out _ _ (Or.inl rfl) ?_
     clear hK K
     try simp only [Act.put, pu]
     refine dnY ?_
     have HN1 := hide (⟨by rw [HSE.out, HAC.out]; exact hcy, HBD.out.trans hby⟩ : ChaAt T n (Dg.actsC n (l.take (k + 1))) Y ∧ Below T.B X Y)
     clear hcy hby HRK HRZ HBD HCD HR10 HC10 HB10 hH0
     go_wp2_with fail
     go_roundw
     case rel => exact ⟨k + 1, by omega, by go_num, HN1⟩
     case measure => simp [intOf]; omega
  ·obtain rfl : k = nl := by omega
   go_wp2
   go_end0
   refine ⟨rfl, ?_, HK.out.2⟩
   have := HK.out.1
   rw [List.take_of_length_le (Nat.le_of_eq HN.out)] at this
   exact this
def wyL : Lay Dg.Wy := ⟨fun a => [.int .u8 (a.src : Int), .int .u8 (a.dst : Int), .bool a.lost, .bool a.again], 4, fun _ => rfl, fun a u hu => by
 rcases List.mem_cons.1 hu with rfl | hu
 ·rfl
 ·rcases List.mem_cons.1 hu with rfl | hu
  ·rfl
  ·rcases List.mem_cons.1 hu with rfl | hu
   ·rfl
   ·rw [List.mem_singleton.1 hu]
    rfl⟩
def WyW (a : Dg.Wy) : Prop := a.src < 256 ∧ a.dst < 256
theorem way_cells {X : World} {B b off : Nat} {l : List Dg.Wy} (h : Row1 wyL X B (some ⟨b, off, none⟩) l) {k : Nat} (hk : k < l.length) : X.cell? ⟨b, off + k * 4, none⟩ = some (.int .u8 (l[k].src : Int)) ∧ X.cell? ⟨b, off + k * 4 + 1, none⟩ = some (.int .u8 (l[k].dst : Int)) ∧ X.cell? ⟨b, off + k * 4 + 2, none⟩ = some (.bool l[k].lost) ∧ X.cell? ⟨b, off + k * 4 + 3, none⟩ = some (.bool l[k].again) := by
 obtain ⟨b', off', e, _, hc⟩ := h.get hk
 injection e with e
 injection e with e1 e2 _
 subst e1 e2
 exact ⟨hc 0 _ (show 0 < 4 by decide) rfl, hc 1 _ (show 1 < 4 by decide) rfl, hc 2 _ (show 2 < 4 by decide) rfl, hc 3 _ (show 3 < 4 by decide) rfl⟩
theorem ways_next (n : Nat) (s : Dg.Ch) (l : List Dg.Wy) (k : Nat) (hk : k < l.length) : (l.take (k + 1)).foldl (Dg.wayC n) s = Dg.wayC n ((l.take k).foldl (Dg.wayC n) s) l[k] := by
 rw [List.take_succ_eq_append_getElem hk, List.foldl_append]
 rfl
theorem go_ways {n k0 : Nat} {P : Nat → List Dg.Cl} {U : List Dg.Cl} (hU : Dg.UniC U) (hn : 0 < n) : ∀ (l : List Dg.Wy) {s : Dg.Ch}, Dg.GoC n P U k0 s → Dg.GoC n P U (k0 + l.length) (l.foldl (Dg.wayC n) s)
 | [], _, h => h
 | a :: l, s, h => by
  have := go_ways hU hn l (h.way hU hn a)
  rw [List.length_cons, List.foldl_cons, show k0 + (l.length + 1) = k0 + 1 + l.length by omega]
  exact this
theorem go_pgs {n k : Nat} {P : Nat → List Dg.Cl} {U : List Dg.Cl} {s : Dg.Ch} (hU : Dg.UniC U) (hg : Dg.GoC n P U k s) : PgsOk n s := fun i hi => by
 have := hg.pg_ok hU hi
 exact ⟨this.1, by omega⟩
theorem again_go {T : CC} {n k : Nat} {P : Nat → List Dg.Cl} {U : List Dg.Cl} {s : Dg.Ch} (hU : Dg.UniC U) (hg : Dg.GoC n P U k s) (hk : k ≤ 1000) (X : World) (h : ChaAt T n s X) {a b : Nat} (ha : a < n) (hb : b < n) :
  Calls Tryz.prog 44 #[.pointer (some ⟨T.cp, 0, none⟩), .int .i64 (a : Int), .int .i64 (b : Int)] X fun e Y => (∃ k, e = .returned (.int .i64 k)) ∧ ChaAt T n (Dg.againC s a b) Y ∧ Below T.B X Y := by
 by_cases hab : a = b
 ·subst hab
  refine (again_eq X h ha).mono ?_
  rintro e Y ⟨rfl, rfl⟩
  exact ⟨⟨_, rfl⟩, by rw [show Dg.againC s a a = s from if_pos rfl]; exact h, Below.refl _ _⟩
 ·exact again_of X h (go_pgs hU hg) ha hb (by have := hg.ways.len a b ha hb hab; omega)
theorem deliver_go {T : CC} {n k : Nat} {P : Nat → List Dg.Cl} {U : List Dg.Cl} {s : Dg.Ch} (hU : Dg.UniC U) (hg : Dg.GoC n P U k s) (hk : k ≤ 1000) (X : World) (h : ChaAt T n s X) {a b : Nat} (ha : a < n) (hb : b < n) (lost : Bool) :
  Calls Tryz.prog 45 #[.pointer (some ⟨T.cp, 0, none⟩), .int .i64 (a : Int), .int .i64 (b : Int), .bool lost] X fun e Y => e = .returned (.bool (decide (¬ (a = b ∨ s.ln a b = [])))) ∧ ChaAt T n (Dg.deliverC s a b lost) Y ∧ Below T.B X Y := by
 by_cases hab : a = b
 ·subst hab
  refine (deliver_eq X h ha lost).mono ?_
  rintro e Y ⟨rfl, rfl⟩
  exact ⟨by simp, by rw [show Dg.deliverC s a a lost = s from if_pos rfl]; exact h, Below.refl _ _⟩
 ·refine deliver_of X h ha hb (by have := hg.ways.len a b ha hb hab; omega) (fun m hm => ?_) lost
  have h1 := hg.msg a b m hm
  have h2 := (hg.pg_ok hU hb).2
  omega
theorem ways_of {T : CC} {n k0 : Nat} {P : Nat → List Dg.Cl} {U : List Dg.Cl} {s : Dg.Ch} (hU : Dg.UniC U) (hg : Dg.GoC n P U k0 s) (hk0 : k0 ≤ 20) (X : World) (h : ChaAt T n s X) (hn0 : 0 < n) (l : List Dg.Wy) (hl : l.length ≤ 40) (hw : ∀ a ∈ l, WyW a) (A : Option Addr) (nl cl : Nat) (hnl : l.length = nl) (B : Nat) (hr : Row1 wyL X B A l) (hB : B ≤ T.B) :
  Calls Tryz.prog 21 #[.pointer (some ⟨T.cp, 0, none⟩), .int .i64 (n : Int), .slice A nl cl] X fun e Y => e = .returned (.tuple #[]) ∧ ChaAt T n (l.foldl (Dg.wayC n) s) Y ∧ Below T.B X Y := by
 have hn4 := h.n4
 have HU := hide hU; have HG := hide hg; have HX := hide h; have HL := hide hl; have HW := hide hw; have HN := hide hnl; have HR := hide (hr.more hB)
 have hnb : nl ≤ 40 := by omega
 clear hU hg h hl hw hnl hr hB
 go_enter func21, ntmps21
 go_wp2_with fail
 go_loopw [6] (fun iv wr => ∃ k : Nat, k ≤ nl ∧ iv = .int .i64 k ∧ Hid (ChaAt T n ((l.take k).foldl (Dg.wayC n) s) wr ∧ Below T.B X wr)) (fun iv _ => nl - (intOf iv).toNat)
 case atStart => exact ⟨0, Nat.zero_le _, rfl, hide ⟨HX.out, Below.refl _ _⟩⟩
 case round =>
  obtain ⟨k, hk, rfl, HK⟩ := hrel
  by_cases hlt : k < nl
  ·have hkl : k < l.length := by rw [HN.out]; exact hlt
   obtain ⟨b, off, rfl⟩ := row1_at HR.out hkl
   obtain ⟨a, ha⟩ : ∃ a, l[k] = a := ⟨_, rfl⟩
   have haw := HW.out a (by rw [← ha]; exact List.getElem_mem hkl)
   have hac := way_cells (HR.out.below HK.out.2) hkl
   rw [ha] at hac
   obtain ⟨f0, f1, f2, f3⟩ := hac
   obtain ⟨i, hi⟩ : ∃ i, a.src % n = i := ⟨_, rfl⟩
   obtain ⟨j, hj⟩ : ∃ j, a.dst % n = j := ⟨_, rfl⟩
   have hin : i < n := by rw [← hi]; exact Nat.mod_lt _ hn0
   have hjn : j < n := by rw [← hj]; exact Nat.mod_lt _ hn0
   have hsd : ((a.src : Int) % (n : Int)) = (i : Int) := by rw [← hi]; exact (Int.natCast_emod ..).symm
   have htd : ((a.dst : Int) % (n : Int)) = (j : Int) := by rw [← hj]; exact (Int.natCast_emod ..).symm
   have q1 : (0 : Int) ≤ (a.src : Int) := by omega
   have q2 : (a.src : Int) < 256 := by have := haw.1; omega
   have q3 : (0 : Int) < (n : Int) := by omega
   have q4 : (0 : Int) ≤ (a.dst : Int) := by omega
   have q5 : (a.dst : Int) < 256 := by have := haw.2; omega
   obtain ⟨sx, hsx⟩ : ∃ sx, (l.take k).foldl (Dg.wayC n) s = sx := ⟨_, rfl⟩
   have hgx : Dg.GoC n P U 60 sx := by
    have h1 := go_ways HU.out hn0 (l.take k) HG.out
    rw [hsx, List.length_take, Nat.min_eq_left (Nat.le_of_lt hkl)] at h1
    exact h1.mono (by omega)
   have hck : ChaAt T n sx wr := by rw [← hsx]; exact HK.out.1
   have HSE := hide (show (l.take (k + 1)).foldl (Dg.wayC n) s = Dg.wayC n sx a by rw [ways_next n s l k hkl, ha, hsx])
   have HI := hide hi; have HJ := hide hj; have HGX := hide hgx; have HCK := hide hck; have HBK := hide HK.out.2
   have HSD := hide hsd; have HTD := hide htd
   clear ha haw hi hj hsx hgx hck HK hsd htd
   go_upto_region 4 with fail
   rw [HSD.out]
   clear f0 q1 q2
   go_upto_region 5 with fail
   rw [HTD.out]
   clear f1 q3 q4 q5
   cases hag : a.again with
   | true =>
    rw [hag] at f3
    have HAC := hide (show Dg.wayC n sx a = Dg.againC sx i j by
     unfold Dg.wayC
     rw [if_pos hag, HI.out, HJ.out])
    clear hag
    go_wp2_with fail
    refine (again_go HU.out HGX.out (by decide) wr HCK.out hin hjn).mono ?_
    rintro e Y ⟨⟨rv, rfl⟩, hcy, hby⟩
    have HN1 := hide (⟨by rw [HSE.out, HAC.out]; exact hcy, HBK.out.trans hby⟩ : ChaAt T n ((l.take (k + 1)).foldl (Dg.wayC n) s) Y ∧ Below T.B X Y)
    clear hcy hby f2 f3
    go_wp2_with fail
    go_roundw
    case rel => exact ⟨k + 1, by omega, by go_num, HN1⟩
    case measure => simp [intOf]; omega
   | false =>
    rw [hag] at f3
    have HAC := hide (show Dg.wayC n sx a = Dg.deliverC sx i j a.lost by
     unfold Dg.wayC
     rw [if_neg (by rw [hag]; decide), HI.out, HJ.out])
    clear hag
    go_wp2_with fail
    refine (deliver_go HU.out HGX.out (by decide) wr HCK.out hin hjn a.lost).mono ?_
    rintro e Y ⟨rfl, hcy, hby⟩
    have HN1 := hide (⟨by rw [HSE.out, HAC.out]; exact hcy, HBK.out.trans hby⟩ : ChaAt T n ((l.take (k + 1)).foldl (Dg.wayC n) s) Y ∧ Below T.B X Y)
    clear hcy hby f2 f3
    go_wp2_with fail
    go_roundw
    case rel => exact ⟨k + 1, by omega, by go_num, HN1⟩
    case measure => simp [intOf]; omega
  ·obtain rfl : k = nl := by omega
   go_wp2
   go_end0
   refine ⟨rfl, ?_, HK.out.2⟩
   have := HK.out.1
   rw [List.take_of_length_le (Nat.le_of_eq HN.out)] at this
   exact this
def rowP (f : Dg.Ch → Nat → Nat → Dg.Ch) (s : Dg.Ch) (a b : Nat) : Dg.Ch := (List.range b).foldl (fun s b => f s a b) s
def rowsP (f : Dg.Ch → Nat → Nat → Dg.Ch) (n : Nat) (s : Dg.Ch) (a : Nat) : Dg.Ch := (List.range a).foldl (fun s a => rowP f s a n) s
def rdC (n : Nat) (s : Dg.Ch) : Nat → Dg.Ch
 | 0 => s
 | r + 1 => Dg.roundC n (rdC n s r)
theorem rowP_next (f : Dg.Ch → Nat → Nat → Dg.Ch) (s : Dg.Ch) (a b : Nat) : rowP f s a (b + 1) = f (rowP f s a b) a b := by
 unfold rowP
 rw [List.range_succ, List.foldl_append]
 rfl
theorem rowsP_next (f : Dg.Ch → Nat → Nat → Dg.Ch) (n : Nat) (s : Dg.Ch) (a : Nat) : rowsP f n s (a + 1) = rowP f (rowsP f n s a) a n := by
 unfold rowsP
 rw [List.range_succ, List.foldl_append]
 rfl
theorem deliver_skip {s : Dg.Ch} {a b : Nat} {lost : Bool} (h : a = b ∨ s.ln a b = []) : Dg.deliverC s a b lost = s := by
 unfold Dg.deliverC
 by_cases hab : a = b
 ·exact if_pos hab
 ·rw [if_neg hab, h.resolve_left hab]
theorem drain_no {s : Dg.Ch} {a b : Nat} (h : a = b ∨ s.ln a b = []) : ∀ f, Dg.drainC s a b f = s
 | 0 => rfl
 | f + 1 => if_pos h
theorem drain_yes {s : Dg.Ch} {a b : Nat} (h : ¬ (a = b ∨ s.ln a b = [])) (f : Nat) : Dg.drainC s a b (f + 1) = Dg.drainC (Dg.deliverC s a b false) a b f := if_neg h
structure StI (T : CC) (n : Nat) (P : Nat → List Dg.Cl) (U : List Dg.Cl) (k : Nat) (X : World) (s : Dg.Ch) (Y : World) : Prop where
 at_ : ChaAt T n s Y
 below : Below T.B X Y
 go : Dg.GoC n P U k s
theorem settles_of {T : CC} {n k0 : Nat} {P : Nat → List Dg.Cl} {U : List Dg.Cl} {s : Dg.Ch} (hU : Dg.UniC U) (hg : Dg.GoC n P U k0 s) (hk0 : k0 ≤ 60) (X : World) (h : ChaAt T n s X) :
  Calls Tryz.prog 22 #[.pointer (some ⟨T.cp, 0, none⟩), .int .i64 (n : Int)] X fun e Y => e = .returned (.tuple #[]) ∧ StI T n P U (k0 + 32) X (Dg.roundC n (Dg.roundC n s)) Y := by
 have hn4 := h.n4
 have HU := hide hU; have HX := hide (⟨h, Below.refl _ _, hg⟩ : StI T n P U (k0 + 16 * 0) X (rdC n s 0) X)
 clear hU hg h
 go_enter func22, ntmps22
 go_wp2_with fail
 go_loopw [4] (fun iv wr => ∃ r : Nat, r ≤ 2 ∧ iv = .int .i64 r ∧ Hid (StI T n P U (k0 + 16 * r) X (rdC n s r) wr)) (fun iv _ => 2 - (intOf iv).toNat)
 case atStart => exact ⟨0, Nat.zero_le _, rfl, HX⟩
 case round =>
  obtain ⟨r, hr, rfl, HR⟩ := hrel
  by_cases hr2 : r < 2
  ·have hr3 : (r : Int) < 2 := by omega
   obtain ⟨s1, hs1⟩ : ∃ s1, rdC n s r = s1 := ⟨_, rfl⟩
   have hr1 := HR.out
   rw [hs1] at hr1
   have H1 := hide (show StI T n P U (k0 + 16 * r + 4 * 0) X (rowsP Dg.againC n s1 0) wr from hr1)
   have HS1 := hide hs1
   clear hr1 hs1 HR HX
   go_wp2_with fail
   go_loopw [5] (fun iv wr => ∃ a : Nat, a ≤ n ∧ iv = .int .i64 a ∧ Hid (StI T n P U (k0 + 16 * r + 4 * a) X (rowsP Dg.againC n s1 a) wr)) (fun iv _ => n - (intOf iv).toNat)
   case atStart => exact ⟨0, Nat.zero_le _, rfl, H1⟩
   case round =>
    obtain ⟨a, ha, rfl, HA⟩ := hrel
    clear H1
    by_cases han : a < n
    ·obtain ⟨s2, hs2⟩ : ∃ s2, rowsP Dg.againC n s1 a = s2 := ⟨_, rfl⟩
     have ha1 := HA.out
     rw [hs2] at ha1
     have H2 := hide (show StI T n P U (k0 + 16 * r + 4 * a + 0) X (rowP Dg.againC s2 a 0) wr from ha1)
     have HS2 := hide hs2
     clear ha1 hs2 HA
     go_wp2_with fail
     go_loopw [6] (fun iv wr => ∃ b : Nat, b ≤ n ∧ iv = .int .i64 b ∧ Hid (StI T n P U (k0 + 16 * r + 4 * a + b) X (rowP Dg.againC s2 a b) wr)) (fun iv _ => n - (intOf iv).toNat)
     case atStart => exact ⟨0, Nat.zero_le _, rfl, H2⟩
     case round =>
      obtain ⟨b, hb, rfl, HB⟩ := hrel
      clear H2
      by_cases hbn : b < n
      ·go_wp2_with fail
       refine (again_go HU.out HB.out.go (by omega) wr HB.out.at_ han hbn).mono ?_
       rintro e Y ⟨⟨rv, rfl⟩, hcy, hby⟩
       have HN1 := hide (show StI T n P U (k0 + 16 * r + 4 * a + (b + 1)) X (rowP Dg.againC s2 a (b + 1)) Y by
        rw [rowP_next]
        exact ⟨hcy, HB.out.below.trans hby, HB.out.go.again HU.out b han⟩)
       clear hcy hby HB
       go_wp2_with fail
       go_roundw
       case rel => exact ⟨b + 1, by omega, by go_num, HN1⟩
       case measure => simp [intOf]; omega
      ·obtain rfl : b = n := by omega
       have HN1 := hide (show StI T b P U (k0 + 16 * r + 4 * (a + 1)) X (rowsP Dg.againC b s1 (a + 1)) wr by
        rw [rowsP_next, HS2.out]
        exact ⟨HB.out.at_, HB.out.below, HB.out.go.mono (by omega)⟩)
       clear HB
       go_wp2_with fail
       go_roundw
       case rel => exact ⟨a + 1, by omega, by go_num, HN1⟩
       case measure => simp [intOf]; omega
    ·obtain rfl : a = n := by omega
     obtain ⟨s3, hs3⟩ : ∃ s3, Dg.rowsC Dg.againC a s1 = s3 := ⟨_, rfl⟩
     have H3 := hide (show StI T a P U (k0 + 16 * r + 16) X (rowsP (fun s a b => Dg.drainC s a b 100) a s3 0) wr by
      rw [← hs3]
      exact ⟨HA.out.at_, HA.out.below, HA.out.go.mono (by omega)⟩)
     have HS3 := hide (show Dg.roundC a s1 = Dg.rowsC (fun s a b => Dg.drainC s a b 100) a s3 by rw [← hs3]; rfl)
     clear hs3 HA
     generalize hk1 : k0 + 16 * r + 16 = k1 at *
     go_wp2_with fail
     go_loopw [7] (fun iv wr => ∃ x : Nat, x ≤ a ∧ iv = .int .i64 x ∧ Hid (StI T a P U k1 X (rowsP (fun s a b => Dg.drainC s a b 100) a s3 x) wr)) (fun iv _ => a - (intOf iv).toNat)
     case atStart => exact ⟨0, Nat.zero_le _, rfl, H3⟩
     case round =>
      obtain ⟨x, hx, rfl, HX3⟩ := hrel
      clear H3
      by_cases hxn : x < a
      ·obtain ⟨s4, hs4⟩ : ∃ s4, rowsP (fun s a b => Dg.drainC s a b 100) a s3 x = s4 := ⟨_, rfl⟩
       have hx1 := HX3.out
       rw [hs4] at hx1
       have H4 := hide (show StI T a P U k1 X (rowP (fun s a b => Dg.drainC s a b 100) s4 x 0) wr from hx1)
       have HS4 := hide hs4
       clear hx1 hs4 HX3
       go_wp2_with fail
       go_loopw [8] (fun iv wr => ∃ y : Nat, y ≤ a ∧ iv = .int .i64 y ∧ Hid (StI T a P U k1 X (rowP (fun s a b => Dg.drainC s a b 100) s4 x y) wr)) (fun iv _ => a - (intOf iv).toNat)
       case atStart => exact ⟨0, Nat.zero_le _, rfl, H4⟩
       case round =>
        obtain ⟨y, hy, rfl, HY⟩ := hrel
        clear H4
        by_cases hyn : y < a
        ·obtain ⟨s5, hs5⟩ : ∃ s5, rowP (fun s a b => Dg.drainC s a b 100) s4 x y = s5 := ⟨_, rfl⟩
         have hy1 := HY.out
         rw [hs5] at hy1
         obtain ⟨s6, hs6⟩ : ∃ s6, Dg.drainC s5 x y 100 = s6 := ⟨_, rfl⟩
         have H5 := hide (show ∃ sx, Dg.drainC sx x y (100 - 0) = s6 ∧ StI T a P U k1 X sx wr from ⟨s5, hs6, hy1⟩)
         have HS5 := hide (show rowP (fun s a b => Dg.drainC s a b 100) s4 x (y + 1) = s6 by rw [rowP_next, hs5]; exact hs6)
         clear hy1 hs5 hs6 HY
         go_wp2_with fail
         go_loopw [9] (fun iv wr => ∃ t : Nat, t ≤ 100 ∧ iv = .int .i64 t ∧ Hid (∃ sx, Dg.drainC sx x y (100 - t) = s6 ∧ StI T a P U k1 X sx wr)) (fun iv _ => 100 - (intOf iv).toNat)
         case atStart => exact ⟨0, Nat.zero_le _, rfl, H5⟩
         case round =>
          obtain ⟨t, ht, rfl, HT⟩ := hrel
          clear H5
          obtain ⟨sx, hsx, hst⟩ := HT.out
          have HSX := hide hsx; have HST := hide hst
          clear hsx hst HT
          by_cases ht1 : t < 100
          ·have ht3 : (t : Int) < 100 := by omega
           go_wp2_with fail
           refine (deliver_go HU.out HST.out.go (by omega) wr HST.out.at_ hxn hyn false).mono ?_
           rintro e Y ⟨rfl, hcy, hby⟩
           by_cases hno : x = y ∨ sx.ln x y = []
           ·have HN1 := hide (show StI T a P U k1 X (rowP (fun s a b => Dg.drainC s a b 100) s4 x (y + 1)) Y by
             rw [HS5.out, ← HSX.out, drain_no hno]
             rw [deliver_skip hno] at hcy
             exact ⟨hcy, HST.out.below.trans hby, HST.out.go⟩)
            have hd : decide (¬ (x = y ∨ sx.ln x y = [])) = false := decide_eq_false (fun h => h hno)
            rw [hd]
            clear hd hno hcy hby HST HSX
            go_wp2_with fail
            go_roundw
            case rel => exact ⟨y + 1, by omega, by go_num, HN1⟩
            case measure => simp [intOf]; omega
           ·have HN1 := hide (show ∃ sx, Dg.drainC sx x y (100 - (t + 1)) = s6 ∧ StI T a P U k1 X sx Y from ⟨_, by
             rw [← HSX.out, show 100 - t = 100 - (t + 1) + 1 by omega, drain_yes hno], hcy, HST.out.below.trans hby, HST.out.go.deliver HU.out hyn false⟩)
            have hd : decide (¬ (x = y ∨ sx.ln x y = [])) = true := decide_eq_true hno
            rw [hd]
            clear hd hno hcy hby HST HSX
            go_wp2_with fail
            go_roundw
            case rel => exact ⟨t + 1, by omega, by go_num, HN1⟩
            case measure => simp [intOf]; omega
          ·obtain rfl : t = 100 := by omega
           have HN1 := hide (show StI T a P U k1 X (rowP (fun s a b => Dg.drainC s a b 100) s4 x (y + 1)) wr by
            rw [HS5.out, ← HSX.out]
            exact HST.out)
           clear HST HSX
           go_wp2_with fail
           go_roundw
           case rel => exact ⟨y + 1, by omega, by go_num, HN1⟩
           case measure => simp [intOf]; omega
        ·obtain rfl : y = a := by omega
         have HN1 := hide (show StI T y P U k1 X (rowsP (fun s a b => Dg.drainC s a b 100) y s3 (x + 1)) wr by
          rw [rowsP_next, HS4.out]
          exact HY.out)
         clear HY
         go_wp2_with fail
         go_roundw
         case rel => exact ⟨x + 1, by omega, by go_num, HN1⟩
         case measure => simp [intOf]; omega
      ·obtain rfl : x = a := by omega
       have HN1 := hide (show StI T x P U (k0 + 16 * (r + 1)) X (rdC x s (r + 1)) wr by
        show StI T x P U (k0 + 16 * (r + 1)) X (Dg.roundC x (rdC x s r)) wr
        rw [HS1.out, HS3.out, show k0 + 16 * (r + 1) = k1 by omega]
        exact HX3.out)
       clear HX3
       go_wp2_with fail
       go_roundw
       case rel => exact ⟨r + 1, by omega, by go_num, HN1⟩
       case measure => simp [intOf]; omega
  ·obtain rfl : r = 2 := by omega
   go_wp2
   go_end0
   exact ⟨rfl, HR.out⟩
theorem Own1.low {α : Type} {L : Lay α} {e : TypeId} {w : World} {B B' : Nat} {v : Value} {l : List α} (h : Own1 L e w B v l) (hB : B' ≤ B) : Own1 L e w B' v l :=
 ⟨h.1, h.2.imp id fun ⟨g, cap, cur, e1, hb, r⟩ => ⟨g, cap, cur, e1, Nat.le_trans hB hb, r⟩⟩
def houseC (n : Nat) (l : List Dg.Ac) : List Dg.Cl := Dg.listC (Dg.uniC n (Dg.actsC n l).pg)
theorem settles_all {n : Nat} (h0 : 0 < n) (h4 : n ≤ 4) {l : List Dg.Ac} {w : List Dg.Wy} (hl : l.length ≤ 20) (hw : w.length ≤ 40) : ∀ i, i < n → Dg.listC ((Dg.roundC n (Dg.roundC n (w.foldl (Dg.wayC n) (Dg.actsC n l)))).pg i) = houseC n l := fun i hi => Dg.settle_ok h0 h4 hl hw hi
theorem house_of (n : Nat) (h0 : 0 < n) (h4 : n ≤ 4) (X : World) (l : List Dg.Ac) (hl : l.length ≤ 20) (hlw : ∀ a ∈ l, AcW a) (A : Option Addr) (nl cl : Nat) (hnl : l.length = nl) (hr : Row1 acL X X.heap.size A l) (ws : List Dg.Wy) (hw : ws.length ≤ 40) (hww : ∀ a ∈ ws, WyW a) (A2 : Option Addr) (nw cw : Nat) (hnw : ws.length = nw) (hr2 : Row1 wyL X X.heap.size A2 ws) :
  Calls Tryz.prog 7 #[.int .i64 (n : Int), .slice A nl cl, .slice A2 nw cw] X fun e Y => (∃ v, e = .returned (.tuple #[v, .bool true]) ∧ Own1 clL 55 Y X.heap.size v (houseC n l)) ∧ Below X.heap.size X Y := by
 obtain ⟨hU, hg⟩ := Dg.GoC.acts h0 l hl
 have HU := hide hU; have HG := hide hg; have HL := hide hl; have HLW := hide hlw; have HN := hide hnl; have HR := hide hr; have HW := hide hw; have HWW := hide hww; have HN2 := hide hnw; have HR2 := hide hr2
 clear hU hg hl hlw hnl hr hw hww hnw hr2
 go_enter func7, ntmps7
 go_wp2_with fail
 refine (new_of n h0 h4 X).mono ?_
 rintro e X1 ⟨⟨T, rfl, hTB, hc1⟩, hb1⟩
 have HTB := hide hTB; have HC1 := hide hc1; have HB1 := hide hb1
 clear hTB hc1 hb1
 go_wp2_with fail
 refine (acts_of X1 HC1.out h0 l HL.out HLW.out A nl cl HN.out (by rw [HTB.out]; exact HR.out.below HB1.out)).mono ?_
 rintro e X2 ⟨rfl, hc2, hb2⟩
 rw [HTB.out] at hb2
 have HC2 := hide hc2; have HB2 := hide (HB1.out.trans hb2)
 clear hc2 hb2 HC1 HB1
 go_wp2_with fail
 refine (ways_of HU.out HG.out HL.out X2 HC2.out h0 ws HW.out HWW.out A2 nw cw HN2.out X.heap.size (HR2.out.below HB2.out) (by rw [HTB.out]; exact Nat.le_refl _)).mono ?_
 rintro e X3 ⟨rfl, hc3, hb3⟩
 rw [HTB.out] at hb3
 have HG3 := hide (go_ways HU.out h0 ws HG.out)
 have HC3 := hide hc3; have HB3 := hide (HB2.out.trans hb3)
 clear hc3 hb3 HC2 HB2
 go_wp2_with fail
 refine (settles_of HU.out HG3.out (by have := HL.out; have := HW.out; omega) X3 HC3.out).mono ?_
 rintro e X4 ⟨rfl, hs4⟩
 obtain ⟨hc4, hb4, hg4⟩ := hs4
 rw [HTB.out] at hb4
 have hall := settles_all h0 h4 HL.out HW.out
 obtain ⟨s4, hs4⟩ : ∃ s4, Dg.roundC n (Dg.roundC n (ws.foldl (Dg.wayC n) (Dg.actsC n l))) = s4 := ⟨_, rfl⟩
 rw [hs4] at hc4 hg4 hall
 have HC4 := hide hc4; have HB4 := hide (HB3.out.trans hb4); have HP4 := hide (go_pgs HU.out hg4); have HALL := hide hall; have HLL := hide (hg4.list_len HU.out h0)
 clear hc4 hb4 hg4 hall hs4 HC3 HB3 HG3
 go_wp2_with fail
 refine (view_of X4 HC4.out HP4.out h0).mono ?_
 rintro e X5 ⟨⟨v, rfl, hv⟩, hb5⟩
 rw [HALL.out 0 h0] at hv
 have HV5 := hide (hv.low HB4.out.size); have HB5 := hide hb5
 have HC5 := hide (HC4.out.below hb5)
 clear hv hb5
 go_wp2_with fail
 refine (settled_of X5 HC5.out HP4.out _ HALL.out (by have := HLL.out; rw [HALL.out 0 h0] at this; omega)).mono ?_
 rintro e X6 ⟨rfl, hb6⟩
 have HV6 := hide (HV5.out.below hb6)
 have HB6 := hide ((HB4.out.trans (HB5.out.mono HB4.out.size)).trans (hb6.mono (Nat.le_trans HB4.out.size HB5.out.size)))
 clear hb6 HV5 HB5 HC5 HC4 HB4
 go_wp2
 go_ret2
 exact ⟨⟨v, rfl, HV6.out⟩, HB6.out⟩
def MaxJ (w : World) : Prop := ∃ m, w.cell? ⟨0, 0, none⟩ = some (.int .i64 m)
theorem MaxJ.below {w w' : World} {B : Nat} (h : MaxJ w) (hb : Below B w w') (hB : 0 < B) : MaxJ w' := by
 obtain ⟨m, hm⟩ := h
 exact ⟨m, (World.cell?_of_block (a := ⟨0, 0, none⟩) (hb.block _ hB)).trans hm⟩
theorem MaxJ.lt {w : World} (h : MaxJ w) : 0 < w.heap.size := by
 obtain ⟨m, hm⟩ := h
 exact World.block_lt_of_cell? _ _ hm
theorem MaxJ.next {w w' : World} (h : MaxJ w) (hb : Below w.heap.size w w') : MaxJ w' := h.below hb h.lt
theorem oncew_of (t s : ByteArray) (ht : t.size ≤ 1000000) (w : World) (hm : MaxJ w) :
  Calls Tryz.prog 91 #[.string t, .string s] w fun e w' => e = .returned (.tuple #[.int .i64 (Lib.index t.data.toList s.data.toList), .bool (Dg.onceB t s)]) ∧ w' = w := by
 obtain ⟨m, hm⟩ := hm
 obtain ⟨K, hK⟩ : ∃ K, Lib.index t.data.toList s.data.toList = K := ⟨_, rfl⟩
 have hR : Dg.onceB t s = (decide (0 ≤ K) && (Lib.lastIndex t.data.toList s.data.toList == K)) := by
  unfold Dg.onceB
  rw [hK]
  rw [Bool.decide_and]
  rfl
 have HK := hide hK; have HR := hide hR; have HM := hide hm
 clear hK hR hm
 go_enter func91, ntmps91
 go_wp2_with fail
 refine (Tryz.strings_Index t s m w (by omega) HM.out).mono ?_
 rintro e w2 ⟨rfl, rfl⟩
 rw [HK.out]
 by_cases h0 : 0 ≤ K
 ·go_wp2_with fail
  refine (Tryz.strings_LastIndex t s (by omega) w2).mono ?_
  rintro e w3 ⟨rfl, rfl⟩
  go_wp2
  go_ret2
  refine ⟨?_, rfl⟩
  rw [HR.out, HK.out, decide_eq_true h0, Bool.true_and]
  rfl
 ·go_wp2
  go_ret2
  refine ⟨?_, rfl⟩
  rw [HR.out, HK.out, decide_eq_false (by omega), Bool.false_and]
  rfl
end Go.Proofs.YtkpbofnnnihbeaaGreat

