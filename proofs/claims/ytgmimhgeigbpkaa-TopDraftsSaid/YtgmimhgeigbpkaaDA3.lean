/- Walks and laws of this seat, several texts in one. No conditions but those that each theorem states. -/
import Derived.Test.YtgmimhgeigbpkaaDA2
import Derived.Laws.StructEq
/- put of package patch. No conditions but those that each theorem states. -/
namespace Go.Proofs.Ytgmimhgeigbpkaa
open Go Go.RowKit Go.Sort Go.Maps
set_option maxRecDepth 100000 in
set_option maxHeartbeats 8000000 in
attribute [-go_sem] Instr.storeAt in
theorem put_a (l : List Dg.It) (A : Option Addr) (n c : Nat) (hl : l.length = n) (hn : n ≤ 1048576) (p : Dg.Pt) (ix : Int) (hw : ∀ x ∈ l, ItW x) (hv : Dg.validC l = true) (m : List Dg.It) (k g2 c2 : Nat) (sp2 : List Value) (hm : m.length = k) (hk : 0 < k) (hnk : n + k ≤ 1048576) (i K : Nat) (hA : p.after.toList.isEmpty = false) (hfi : findX l p.after = (i : Int)) (hK : Dg.belowN l p.after = K) (hle : i + (1 + K) ≤ n) (w : World) (hI : Its w w.heap.size A l) (hg2 : w.heap[g2]? = some (.cells (iLay.flat m ++ sp2).toArray 37 (0, 0))) :
  Calls Try.prog 45 #[.agg #[.slice A n c, .int .i64 p.1, .string p.2, .string p.3, .string p.4, .string p.5, .int .i64 p.6.1, .string p.6.2, .string p.6.3, .string p.6.4, .string p.6.5, .string p.6.6, .bool p.6.7, .int .i64 p.7, .string p.8, .string p.9, .int .i64 ix], .slice (some ⟨g2, 0, none⟩) k c2] w fun e w' => ∃ v', e = .returned (.agg #[v']) ∧ Own1 iLay 37 w' w.heap.size v' (l.take (i + (1 + K)) ++ (m ++ l.drop (i + (1 + K)))) ∧ Below w.heap.size w w' := by
 obtain ⟨r1, r2, hb, hs⟩ := iAlloc2 w (.cells #[.slice A n c, .int .i64 p.1, .string p.2, .string p.3, .string p.4, .string p.5, .int .i64 p.6.1, .string p.6.2, .string p.6.3, .string p.6.4, .string p.6.5, .string p.6.6, .bool p.6.7, .int .i64 p.7, .string p.8, .string p.9, .int .i64 ix] 68) (.cells #[.slice none 0 0] 24)
 have hl2 := lt_of_block hg2
 have hg22 := iNext hg2 hb
 have HI := hide (hI.keep hb); have HL := hide hl; have HM := hide hm; have HS := hide hs
 clear hI hl hm hs hg2
 have HFI := hide hfi; have HK := hide hK; have HW := hide hw; have HV := hide hv
 clear hfi hK hw hv
 have hcs := jC17 r1
 have c0 := hcs.1
 have c3 := hcs.2.2.1
 have c4 := hcs.2.2.2.1
 have c4 := hcs.2.2.2.2.1
 clear hcs
 go_enter Try.func45, Try.ntmps45
 go_upto_region 3 with (fail)
 generalize (w.alloc (.cells #[.slice A n c, .int .i64 p.1, .string p.2, .string p.3, .string p.4, .string p.5, .int .i64 p.6.1, .string p.6.2, .string p.6.3, .string p.6.4, .string p.6.5, .string p.6.6, .bool p.6.7, .int .i64 p.7, .string p.8, .string p.9, .int .i64 ix] 68)).alloc (.cells #[.slice none 0 0] 24) = W1 at *
 clear c0 c3 c4
 have HR1 := hide (fun (d : Nat) (os : Array Obj) => range_of ((below_regrown W1 d os).block _ (lt_of_block r1) |>.trans r1) 0 [.slice A n c, .int .i64 p.1, .string p.2, .string p.3, .string p.4, .string p.5, .int .i64 p.6.1, .string p.6.2, .string p.6.3, .string p.6.4, .string p.6.5, .string p.6.6, .bool p.6.7, .int .i64 p.7, .string p.8, .string p.9, .int .i64 ix] rfl)
 have k0 := fun (d : Nat) (os : Array Obj) => (jC17 ((below_regrown W1 d os).block _ (lt_of_block r1) |>.trans r1)).1
 have k4 := fun (d : Nat) (os : Array Obj) => (jC17 ((below_regrown W1 d os).block _ (lt_of_block r1) |>.trans r1)).2.2.2.2.1
 have q1 := fun (d : Nat) (os : Array Obj) => Calls.regrown_of (Code.find_of l A n c HL.out hn p.after (grow (redrawn W1 d) os) (HI.out.keep (below_regrown W1 d os)) (i : Int) HFI.out)
 have q2 := fun (d : Nat) (os : Array Obj) => Calls.regrown_of (size_of l A n c HL.out hn p ix HW.out HV.out p.after (grow (redrawn W1 d) os) (HI.out.keep (below_regrown W1 d os)) K HK.out)
 have Q1 := hide q1; have Q2 := hide q2; clear q1 q2
 have hwr : IntKind.i64.wrap ((i : Int) + ((1 + K : Nat) : Int)) = ((i + (1 + K) : Nat) : Int) := by rw [IntKind.wrap_i64]; omega
 have HWR := hide hwr
 clear hwr
 refine wp_region_quiet_below (by kernel_rfl) (by decide +kernel) ?_
 repeat (first | go_big_quiet_step (fail) | quiet_step (fail))
 (first | go_big_quiet_step (exact Q1.out _ _) | quiet_step (exact Q1.out _ _))
 repeat (first | go_big_quiet_step (fail) | quiet_step (fail))
 (refine wpQuiet_step (fun K hK => ?_); rw [if_pos (by rfl)]; refine quiet_load_mid 68 (.tmp 2) rfl w.heap.size 0 rfl _ _ (fun _ ⟨q, e⟩ => e ▸ HR1.out q.d q.os) Try.underlying68 rfl (by kernel_rfl) ?_; refine hK _ ?_; clear hK K)
 repeat (first | go_big_quiet_step (fail) | quiet_step (fail))
 (first | go_big_quiet_step (exact Q2.out _ _) | quiet_step (exact Q2.out _ _))
 have hwr := HWR.out
 repeat (first | go_big_quiet_step (fail) | quiet_step (fail))
 refine wpQuiet_nil ?_
 intro _ hw2
 obtain ⟨⟨dq, osq⟩, hw3⟩ := hw2
 subst hw3
 clear hwr HWR k0 k4 HR1 Q1 Q2
 have hbq := below_regrown W1 dq osq
 have r12 := iNext r1 hbq
 have r22 := iNext r2 hbq
 have hg23 := iNext hg22 hbq
 have HI2 := hide (HI.out.keep hbq)
 have hb2 := bnext hb hbq
 have hsz2 : w.heap.size + 2 ≤ (grow (redrawn W1 dq) osq).heap.size := by have := hbq.size; have := HS.out; omega
 clear hbq hb r1 r2 hg22 HI
 generalize grow (redrawn W1 dq) osq = w2 at *
 obtain ⟨K0, hK0⟩ : ∃ K0, K0 = i + (1 + K) := ⟨_, rfl⟩
 have hKi : (i : Int) + (1 + (K : Int)) = (K0 : Int) := by omega
 rw [hKi]
 clear hKi
 have HK0 := hide hK0
 have hKn : K0 ≤ n := by omega
 clear hK0
 have c0 := (jC17 r12).1
 go_wp2_with fail
 refine (cloneI_any A n c l w2 HL.out (by omega) HI2.out).mono ?_
 rintro e w3 ⟨v1, rfl, hO, hb3⟩
 clear c0
 have r23 := iNext r22 hb3
 have hg24 := iNext hg23 hb3
 have hb4 := bnext hb2 hb3
 have hlt2 : g2 < w2.heap.size := by omega
 obtain ⟨A1, c1, hv1, _, _⟩ := hO.row
 have hvh := HL.out
 rw [hvh] at hv1
 clear hvh
 subst hv1
 go_wp2_with fail
 have hin := insertI_any (.slice A1 n c1) l m K0 w2.heap.size g2 c2 sp2 w3 hO hg24 hlt2 hb3.size (by rw [HL.out]; exact hKn) (by rw [HM.out]; exact hk) (by rw [HL.out, HM.out]; omega)
 rw [HM.out] at hin
 refine hin.mono ?_
 rintro e w4 ⟨v2, rfl, hO2, hb5⟩
 clear hin hO
 obtain ⟨A2, c2', hv2, _, _⟩ := hO2.row
 obtain ⟨m', hm'⟩ : ∃ m', (l.take K0 ++ (m ++ l.drop K0)).length = m' := ⟨_, rfl⟩
 rw [hm'] at hv2
 clear hm'
 subst hv2
 have r24 : w4.heap[w.heap.size + 1]? = some (.cells #[.slice none 0 0] 24 (0, 0)) := (hb5.block _ (by omega)).trans r23
 have hb6 : Below w.heap.size w w4 := hb4.trans (hb5.mono (by omega))
 have hst := store_part (ty := 24) w4 (w.heap.size + 1) 0 #[.slice none 0 0] (.agg #[.slice A2 m' c2']) #[.slice A2 m' c2'] r24 infoCode1 (Nat.le_refl _) (one_code _ _ _) rfl
 have r25 := setRow_heap w4 (w.heap.size + 1) _ #[.slice A2 m' c2'] _ _ r24
 have hb8 := below_setRow hb6 (by omega) (g := w.heap.size + 1) #[.slice A2 m' c2']
 have HO2 := hide (own_other hO2 (g := w.heap.size + 1) (fun e => by have := (World.ownsRow.lt hO2 _ e).1; omega) #[.slice A2 m' c2'])
 clear hO2 hb5 hb6 r23 r24 hb4 hb3 hg24 hg23 r12 r22 HI2
 go_wp2
 rw [HK0.out] at HO2
 refine bodyPost_ret (results_cell_row (P := Try.prog) Try.results45 _ _ (w.heap.size + 1) 24 #[.slice A2 m' c2'] (0, 0) _ rfl r25 Try.underlying24 rfl (by kernel_rfl)) rfl ⟨_, rfl, ?_, hb8⟩
 have h9 := HO2.out
 exact own_weak h9 (by omega)
set_option maxRecDepth 100000 in
set_option maxHeartbeats 8000000 in
attribute [-go_sem] Instr.storeAt in
theorem put_b (l : List Dg.It) (A : Option Addr) (n c : Nat) (hl : l.length = n) (hn : n ≤ 1048576) (p : Dg.Pt) (ix : Int)  (m : List Dg.It) (k g2 c2 : Nat) (sp2 : List Value) (hm : m.length = k) (hk : 0 < k) (hnk : n + k ≤ 1048576) (i : Nat) (hA : p.after.toList.isEmpty = true) (hP : p.parent.toList.isEmpty = false) (hfi : findX l p.parent = (i : Int)) (hle : i + 1 ≤ n) (w : World) (hI : Its w w.heap.size A l) (hg2 : w.heap[g2]? = some (.cells (iLay.flat m ++ sp2).toArray 37 (0, 0))) :
  Calls Try.prog 45 #[.agg #[.slice A n c, .int .i64 p.1, .string p.2, .string p.3, .string p.4, .string p.5, .int .i64 p.6.1, .string p.6.2, .string p.6.3, .string p.6.4, .string p.6.5, .string p.6.6, .bool p.6.7, .int .i64 p.7, .string p.8, .string p.9, .int .i64 ix], .slice (some ⟨g2, 0, none⟩) k c2] w fun e w' => ∃ v', e = .returned (.agg #[v']) ∧ Own1 iLay 37 w' w.heap.size v' (l.take (i + 1) ++ (m ++ l.drop (i + 1))) ∧ Below w.heap.size w w' := by
 obtain ⟨r1, r2, hb, hs⟩ := iAlloc2 w (.cells #[.slice A n c, .int .i64 p.1, .string p.2, .string p.3, .string p.4, .string p.5, .int .i64 p.6.1, .string p.6.2, .string p.6.3, .string p.6.4, .string p.6.5, .string p.6.6, .bool p.6.7, .int .i64 p.7, .string p.8, .string p.9, .int .i64 ix] 68) (.cells #[.slice none 0 0] 24)
 have hl2 := lt_of_block hg2
 have hg22 := iNext hg2 hb
 have HI := hide (hI.keep hb); have HL := hide hl; have HM := hide hm; have HS := hide hs
 clear hI hl hm hs hg2
 have HFI := hide hfi
 clear hfi
 have hcs := jC17 r1
 have c0 := hcs.1
 have c3 := hcs.2.2.1
 have c4 := hcs.2.2.2.1
 have c4 := hcs.2.2.2.2.1
 clear hcs
 go_enter Try.func45, Try.ntmps45
 go_wp2_with fail
 generalize (w.alloc (.cells #[.slice A n c, .int .i64 p.1, .string p.2, .string p.3, .string p.4, .string p.5, .int .i64 p.6.1, .string p.6.2, .string p.6.3, .string p.6.4, .string p.6.5, .string p.6.6, .bool p.6.7, .int .i64 p.7, .string p.8, .string p.9, .int .i64 ix] 68)).alloc (.cells #[.slice none 0 0] 24) = W1 at *
 refine (Code.find_of l A n c HL.out hn p.parent W1 HI.out (i : Int) HFI.out).mono ?_
 rintro e w2 ⟨rfl, hbq⟩
 clear c0 c3 c4
 have r12 := iNext r1 hbq
 have r22 := iNext r2 hbq
 have hg23 := iNext hg22 hbq
 have HI2 := hide (HI.out.keep hbq)
 have hb2 := bnext hb hbq
 have hsz2 : w.heap.size + 2 ≤ w2.heap.size := by have := hbq.size; have := HS.out; omega
 clear hbq hb r1 r2 hg22 HI
 obtain ⟨K0, hK0⟩ : ∃ K0, K0 = i + 1 := ⟨_, rfl⟩
 have HK0 := hide hK0
 have hKn : K0 ≤ n := by omega
 have hKi : (i : Int) + 1 = (K0 : Int) := by omega
 clear hK0
 have c0 := (jC17 r12).1
 go_wp2_with fail
 refine (cloneI_any A n c l w2 HL.out (by omega) HI2.out).mono ?_
 rintro e w3 ⟨v1, rfl, hO, hb3⟩
 clear c0
 have r23 := iNext r22 hb3
 have hg24 := iNext hg23 hb3
 have hb4 := bnext hb2 hb3
 have hlt2 : g2 < w2.heap.size := by omega
 obtain ⟨A1, c1, hv1, _, _⟩ := hO.row
 have hvh := HL.out
 rw [hvh] at hv1
 clear hvh
 subst hv1
 go_wp2_with fail
 have hin := insertI_any (.slice A1 n c1) l m K0 w2.heap.size g2 c2 sp2 w3 hO hg24 hlt2 hb3.size (by rw [HL.out]; exact hKn) (by rw [HM.out]; exact hk) (by rw [HL.out, HM.out]; omega)
 rw [HM.out] at hin
 refine hin.mono ?_
 rintro e w4 ⟨v2, rfl, hO2, hb5⟩
 clear hin hO
 obtain ⟨A2, c2', hv2, _, _⟩ := hO2.row
 obtain ⟨m', hm'⟩ : ∃ m', (l.take K0 ++ (m ++ l.drop K0)).length = m' := ⟨_, rfl⟩
 rw [hm'] at hv2
 clear hm'
 subst hv2
 have r24 : w4.heap[w.heap.size + 1]? = some (.cells #[.slice none 0 0] 24 (0, 0)) := (hb5.block _ (by omega)).trans r23
 have hb6 : Below w.heap.size w w4 := hb4.trans (hb5.mono (by omega))
 have hst := store_part (ty := 24) w4 (w.heap.size + 1) 0 #[.slice none 0 0] (.agg #[.slice A2 m' c2']) #[.slice A2 m' c2'] r24 infoCode1 (Nat.le_refl _) (one_code _ _ _) rfl
 have r25 := setRow_heap w4 (w.heap.size + 1) _ #[.slice A2 m' c2'] _ _ r24
 have hb8 := below_setRow hb6 (by omega) (g := w.heap.size + 1) #[.slice A2 m' c2']
 have HO2 := hide (own_other hO2 (g := w.heap.size + 1) (fun e => by have := (World.ownsRow.lt hO2 _ e).1; omega) #[.slice A2 m' c2'])
 clear hO2 hb5 hb6 r23 r24 hb4 hb3 hg24 hg23 r12 r22 HI2
 go_wp2
 rw [HK0.out] at HO2
 refine bodyPost_ret (results_cell_row (P := Try.prog) Try.results45 _ _ (w.heap.size + 1) 24 #[.slice A2 m' c2'] (0, 0) _ rfl r25 Try.underlying24 rfl (by kernel_rfl)) rfl ⟨_, rfl, ?_, hb8⟩
 have h9 := HO2.out
 exact own_weak h9 (by omega)
set_option maxRecDepth 100000 in
set_option maxHeartbeats 8000000 in
attribute [-go_sem] Instr.storeAt in
theorem put_c (l : List Dg.It) (A : Option Addr) (n c : Nat) (hl : l.length = n) (hn : n ≤ 1048576) (p : Dg.Pt) (ix : Int)  (m : List Dg.It) (k g2 c2 : Nat) (sp2 : List Value) (hm : m.length = k) (hk : 0 < k) (hnk : n + k ≤ 1048576) (hA : p.after.toList.isEmpty = true) (hP : p.parent.toList.isEmpty = true) (w : World) (hI : Its w w.heap.size A l) (hg2 : w.heap[g2]? = some (.cells (iLay.flat m ++ sp2).toArray 37 (0, 0))) :
  Calls Try.prog 45 #[.agg #[.slice A n c, .int .i64 p.1, .string p.2, .string p.3, .string p.4, .string p.5, .int .i64 p.6.1, .string p.6.2, .string p.6.3, .string p.6.4, .string p.6.5, .string p.6.6, .bool p.6.7, .int .i64 p.7, .string p.8, .string p.9, .int .i64 ix], .slice (some ⟨g2, 0, none⟩) k c2] w fun e w' => ∃ v', e = .returned (.agg #[v']) ∧ Own1 iLay 37 w' w.heap.size v' (l.take 0 ++ (m ++ l.drop 0)) ∧ Below w.heap.size w w' := by
 obtain ⟨r1, r2, hb, hs⟩ := iAlloc2 w (.cells #[.slice A n c, .int .i64 p.1, .string p.2, .string p.3, .string p.4, .string p.5, .int .i64 p.6.1, .string p.6.2, .string p.6.3, .string p.6.4, .string p.6.5, .string p.6.6, .bool p.6.7, .int .i64 p.7, .string p.8, .string p.9, .int .i64 ix] 68) (.cells #[.slice none 0 0] 24)
 have hl2 := lt_of_block hg2
 have hg22 := iNext hg2 hb
 have HI := hide (hI.keep hb); have HL := hide hl; have HM := hide hm; have HS := hide hs
 clear hI hl hm hs hg2
 have hcs := jC17 r1
 have c0 := hcs.1
 have c3 := hcs.2.2.1
 have c4 := hcs.2.2.2.1
 have c4 := hcs.2.2.2.2.1
 clear hcs
 go_enter Try.func45, Try.ntmps45
 go_upto_region 6 with (fail)
 generalize (w.alloc (.cells #[.slice A n c, .int .i64 p.1, .string p.2, .string p.3, .string p.4, .string p.5, .int .i64 p.6.1, .string p.6.2, .string p.6.3, .string p.6.4, .string p.6.5, .string p.6.6, .bool p.6.7, .int .i64 p.7, .string p.8, .string p.9, .int .i64 ix] 68)).alloc (.cells #[.slice none 0 0] 24) = w2 at *
 clear c0 c3 c4
 have r12 := r1
 have r22 := r2
 have hg23 := hg22
 have HI2 := HI
 have hb2 := hb
 have hsz2 : w.heap.size + 2 ≤ w2.heap.size := by have := HS.out; omega
 clear hb r1 r2 hg22 HI
 obtain ⟨K0, hK0⟩ : ∃ K0, K0 = (0 : Nat) := ⟨_, rfl⟩
 have hKn : K0 ≤ n := by omega
 have HK0 := hide hK0
 clear hK0
 have c0 := (jC17 r12).1
 go_wp2_with fail
 refine (cloneI_any A n c l w2 HL.out (by omega) HI2.out).mono ?_
 rintro e w3 ⟨v1, rfl, hO, hb3⟩
 clear c0
 have r23 := iNext r22 hb3
 have hg24 := iNext hg23 hb3
 have hb4 := bnext hb2 hb3
 have hlt2 : g2 < w2.heap.size := by omega
 obtain ⟨A1, c1, hv1, _, _⟩ := hO.row
 have hvh := HL.out
 rw [hvh] at hv1
 clear hvh
 subst hv1
 go_wp2_with fail
 have hin := insertI_any (.slice A1 n c1) l m K0 w2.heap.size g2 c2 sp2 w3 hO hg24 hlt2 hb3.size (by rw [HL.out]; exact hKn) (by rw [HM.out]; exact hk) (by rw [HL.out, HM.out]; omega)
 rw [HM.out] at hin
 rw [HK0.out] at hin
 rw [show ((0 : Nat) : Int) = (0 : Int) from rfl] at hin
 refine hin.mono ?_
 rintro e w4 ⟨v2, rfl, hO2, hb5⟩
 clear hin hO
 obtain ⟨A2, c2', hv2, _, _⟩ := hO2.row
 obtain ⟨m', hm'⟩ : ∃ m', (l.take 0 ++ (m ++ l.drop 0)).length = m' := ⟨_, rfl⟩
 rw [hm'] at hv2
 clear hm'
 subst hv2
 have r24 : w4.heap[w.heap.size + 1]? = some (.cells #[.slice none 0 0] 24 (0, 0)) := (hb5.block _ (by omega)).trans r23
 have hb6 : Below w.heap.size w w4 := hb4.trans (hb5.mono (by omega))
 have hst := store_part (ty := 24) w4 (w.heap.size + 1) 0 #[.slice none 0 0] (.agg #[.slice A2 m' c2']) #[.slice A2 m' c2'] r24 infoCode1 (Nat.le_refl _) (one_code _ _ _) rfl
 have r25 := setRow_heap w4 (w.heap.size + 1) _ #[.slice A2 m' c2'] _ _ r24
 have hb8 := below_setRow hb6 (by omega) (g := w.heap.size + 1) #[.slice A2 m' c2']
 have HO2 := hide (own_other hO2 (g := w.heap.size + 1) (fun e => by have := (World.ownsRow.lt hO2 _ e).1; omega) #[.slice A2 m' c2'])
 clear hO2 hb5 hb6 r23 r24 hb4 hb3 hg24 hg23 r12 r22 HI2
 go_wp2
 refine bodyPost_ret (results_cell_row (P := Try.prog) Try.results45 _ _ (w.heap.size + 1) 24 #[.slice A2 m' c2'] (0, 0) _ rfl r25 Try.underlying24 rfl (by kernel_rfl)) rfl ⟨_, rfl, ?_, hb8⟩
 have h9 := HO2.out
 exact own_weak h9 (by omega)
end Go.Proofs.Ytgmimhgeigbpkaa
/- What a patch that lays an item in does to a code, in plain Lean. No program in sight. -/
namespace Go.Proofs.Ytgmimhgeigbpkaa.Dg
open Go
theorem itemA_at {l : List It} {d : ByteArray} {i : Nat} (h : idxI l d = some i) : ∃ hi : i < l.length, l[i].id = d ∧ itemA l d = l[i] := by
 obtain ⟨hi, e⟩ := idxI_some h
 refine ⟨hi, e, ?_⟩
 unfold itemA
 rw [h]
 simp only
 rw [List.getD_eq_getElem?_getD, List.getElem?_eq_getElem hi, Option.getD_some]
theorem itemA_some {l : List It} {d : ByteArray} (h : (itemA l d).kind ≠ 0) : ∃ i, idxI l d = some i := by
 cases hi : idxI l d with
 | some i => exact ⟨i, rfl⟩
 | none =>
  unfold itemA at h
  rw [hi] at h
  exact absurd rfl h
theorem exists_iff (l : List It) (p : Pt) : existsP l p = true ↔ (p.parent = nil8 ∨ (itemA l p.parent).kind = 1) ∧ (p.after = nil8 ∨ ((itemA l p.after).kind ≠ 0 ∧ (itemA l p.after).parent = p.parent)) := by
 unfold existsP
 simp only [Bool.and_eq_true, Bool.or_eq_true, decide_eq_true_eq, Bool.not_eq_true', decide_eq_false_iff_not]
/-- How many items are below one, as its tree has them. -/
theorem tree_at {l : List It} (hv : validC l = true) {i : Nat} (hi : i < l.length) : i + belowN l l[i].id < l.length ∧ (0 < belowN l l[i].id → l[i].kind = 1) ∧ treeT l[i] ((l.drop (i + 1)).take (belowN l l[i].id)) ∧ (∀ h : i + belowN l l[i].id + 1 < l.length, l[i + belowN l l[i].id + 1].parent ∉ (l[i] :: (l.drop (i + 1)).take (belowN l l[i].id)).map It.id) ∧
  ∀ k, k < l.length → ∀ o, (visits l)[k]? = some o → (l[i].id ∈ o ↔ i < k ∧ k ≤ i + belowN l l[i].id) := by
 obtain ⟨m, h1, h2, h3, h4, h5⟩ := subtree hv hi
 have e := belowN_tree hv hi h1 h5
 rw [e]
 exact ⟨h1, h2, h3, h4, h5⟩
/-- The place of a patch: items can be laid there, and where they come among their division's. -/
theorem place_ok {l : List It} (hv : validC l = true) {p : Pt} (he : existsP l p = true) :
  (∃ s n, goW wk0 (l.take (placeP l p)) = some s ∧ kOf s.op p.parent = some n ∧ shallow s.op n (l.drop (placeP l p))) ∧
  ∀ x, kids (l.take (placeP l p)) p.parent ++ (x :: kids (l.drop (placeP l p)) p.parent) = insK p.after x (kids l p.parent) := by
 obtain ⟨h1, h2⟩ := (exists_iff l p).1 he
 by_cases ha : p.after = nil8
 ·by_cases hp : p.parent = nil8
  ·have e : placeP l p = 0 := by unfold placeP; rw [if_neg (fun h => h ha), if_neg (fun h => h hp)]
   rw [e, hp]
   refine ⟨place_top hv, fun x => ?_⟩
   rw [ha, List.take_zero, List.drop_zero]
   unfold insK
   rw [if_pos rfl]
   rfl
  ·have hk : (itemA l p.parent).kind = 1 := h1.resolve_left hp
   obtain ⟨j, hj⟩ := itemA_some (l := l) (d := p.parent) (by rw [hk]; decide)
   obtain ⟨hjl, hid, hit⟩ := itemA_at hj
   rw [hit] at hk
   have e : placeP l p = j + 1 := by unfold placeP; rw [if_neg (fun h => h ha), if_pos hp, hj]; rfl
   rw [e, ← hid]
   refine ⟨place_under hv hjl hk, fun x => ?_⟩
   have hc := kids_cut l (j + 1) l[j].id
   rw [kids_before hv hjl, List.nil_append] at hc
   rw [kids_before hv hjl, List.nil_append, hc, ha]
   unfold insK
   rw [if_pos rfl]
 ·obtain ⟨hk, hpar⟩ := h2.resolve_left ha
  obtain ⟨j, hj⟩ := itemA_some hk
  obtain ⟨hjl, hid, hit⟩ := itemA_at hj
  rw [hit] at hpar
  obtain ⟨t1, _, t3, t4, _⟩ := tree_at hv hjl
  have e : placeP l p = j + 1 + belowN l l[j].id := by
   unfold placeP
   rw [if_pos ha, hj, hid]
   show j + (1 + _) = _
   omega
  rw [e, ← hpar]
  refine ⟨place_after hv hjl t1 t3 t4, fun x => ?_⟩
  obtain ⟨pre, hpre, hno⟩ := kids_upto hv hjl t3
  have hc := kids_cut l (j + 1 + belowN l l[j].id) l[j].parent
  rw [hpre] at hc
  rw [hpre, ← hc, ← hid]
  unfold insK
  rw [if_neg (by rw [hid]; exact ha), List.append_assoc, List.append_assoc]
  show _ = insA l[j].id x (pre ++ l[j].id :: _)
  rw [insA_at l[j].id x pre _ hno]
  rfl
theorem formed_ins {p : Pt} (hk : p.kind = 1) (hf : formedP p = true) : p.item.id = p.id ∧ p.item.parent = p.parent ∧ properI p.item = true := by
 unfold formedP at hf
 rw [if_pos hk] at hf
 simp only [Bool.and_eq_true, decide_eq_true_eq] at hf
 obtain ⟨_, h1, h2, h3⟩ := hf
 refine ⟨h1, h2, ?_⟩
 have := valid_proper h3 _ (List.mem_singleton.2 rfl)
 exact this
theorem mem_put {l : List It} {p : Pt} {xs : List It} {y : It} : y ∈ putP l p xs ↔ y ∈ xs ∨ y ∈ l := by
 unfold putP
 rw [List.mem_append, List.mem_append]
 constructor
 ·rintro (h | h | h)
  ·exact Or.inr (List.mem_of_mem_take h)
  ·exact Or.inl h
  ·exact Or.inr (List.mem_of_mem_drop h)
 ·rintro (h | h)
  ·exact Or.inr (Or.inl h)
  ·rw [← List.take_append_drop (placeP l p) l] at h
   rcases List.mem_append.1 h with h | h
   ·exact Or.inl h
   ·exact Or.inr (Or.inr h)
/-- An item comes in. -/
theorem insert_eff {l : List It} (hv : validC l = true) {p : Pt} (hk : p.kind = 1) (hf : formedP p = true) {l' : List It} (h : insertP l p = (l', 0)) :
  validC l' = true ∧ (∀ q, kids l' q = if q = p.parent then insK p.after p.id (kids l q) else kids l q) ∧ (∀ y, y ∈ l' ↔ y = p.item ∨ y ∈ l) ∧ l'.length = l.length + 1 := by
 obtain ⟨hid, hpar, hpr⟩ := formed_ins hk hf
 unfold insertP at h
 split at h
 ·injection h with _ h; exact absurd h (by decide)
 rename_i hnone
 split at h
 ·injection h with _ h; exact absurd h (by decide)
 rename_i hex
 split at h
 ·injection h with _ h; exact absurd h (by decide)
 rename_i hlen
 injection h with h _
 subst h
 have hno : idxI l p.id = none := by
  cases hi : idxI l p.id with
  | none => rfl
  | some i => rw [hi] at hnone; exact absurd rfl hnone
 have hnew := idxI_none hno
 have hex : existsP l p = true := by simpa using hex
 obtain ⟨⟨s, n, g1, g2, g3⟩, hks⟩ := place_ok hv hex
 obtain ⟨hvn, ht⟩ := new_valid hv hpr (fun hm => by
  obtain ⟨y, hy, e⟩ := List.mem_map.1 hm
  exact hnew y hy (e.trans hid)) g1 (by rw [hpar]; exact g2) g3 (by omega)
 refine ⟨hvn, fun q => ?_, fun y => ?_, ?_⟩
 ·by_cases hq : q = p.id
  ·-- nothing lies in the new item
   have hne : p.id ≠ nil8 := fun e => name_ne (proper_name hpr) (hid.trans e)
   have hqp : q ≠ p.parent := fun e => by
    obtain ⟨h1, _⟩ := (exists_iff l p).1 hex
    rcases h1 with h1 | h1
    ·exact hne (hq.symm.trans (e.trans h1))
    ·obtain ⟨j, hj⟩ := itemA_some (l := l) (d := p.parent) (by rw [h1]; decide)
     obtain ⟨hjl, hjd⟩ := idxI_some hj
     exact hnew _ (List.getElem_mem hjl) (hjd.trans (e.symm.trans hq))
   rw [if_neg hqp]
   have e1 : kids l q = [] := kids_foreign hv (by rw [hq]; exact hne) (fun hm => by
    obtain ⟨y, hy, e⟩ := List.mem_map.1 hm
    exact hnew y hy (e.trans hq))
   rw [e1]
   refine kids_none fun y hy e => ?_
   rcases mem_put.1 hy with h | h
   ·rw [List.mem_singleton.1 h, hpar] at e
    exact hqp e.symm
   ·have : y.id ∈ kids l q := mem_kids.2 ⟨y, h, e, rfl⟩
    rw [e1] at this
    cases this
  ·unfold putP
   rw [kids_lay (x := p.item) (R := []) ht (by rw [List.map_singleton, hid]; simpa using hq), hpar]
   by_cases hqp : q = p.parent
   ·subst hqp
    rw [if_pos rfl, if_pos rfl, hid]
    exact hks p.id
   ·rw [if_neg (fun e => hqp e.symm), if_neg hqp, List.nil_append, kids_cut]
 ·rw [mem_put, List.mem_singleton]
 ·unfold putP
  rw [List.length_append, List.length_append, List.length_take, List.length_drop, List.length_singleton]
  omega
end Go.Proofs.Ytgmimhgeigbpkaa.Dg
/- What a patch that moves an item does to a code, in plain Lean. No program in sight. -/
namespace Go.Proofs.Ytgmimhgeigbpkaa.Dg
open Go
theorem itemA_mem {l : List It} (hv : validC l = true) {y : It} (hy : y ∈ l) : itemA l y.id = y := by
 obtain ⟨i, hi, rfl⟩ := List.mem_iff_getElem.1 hy
 obtain ⟨_, _, h⟩ := itemA_at (idxI_at hv hi)
 exact h
theorem mem_itemA {l : List It} {d : ByteArray} (h : (itemA l d).kind ≠ 0) : itemA l d ∈ l ∧ (itemA l d).id = d := by
 obtain ⟨i, hi⟩ := itemA_some h
 obtain ⟨hl, hd, e⟩ := itemA_at hi
 rw [e]
 exact ⟨List.getElem_mem hl, hd⟩
/-- An item of a code is in the tree or beside it. -/
theorem mem_three {l : List It} {i m : Nat} (hi : i < l.length) {y : It} : y ∈ l ↔ y ∈ l[i] :: (l.drop (i + 1)).take m ∨ y ∈ cutC l i m := by
 conv => lhs; rw [three l (m := m) hi]
 unfold cutC
 simp only [List.mem_append]
 constructor
 ·rintro (h | h | h)
  ·exact Or.inr (Or.inl h)
  ·exact Or.inl h
  ·exact Or.inr (Or.inr h)
 ·rintro (h | h | h)
  ·exact Or.inr (Or.inl h)
  ·exact Or.inl h
  ·exact Or.inr (Or.inr h)
/-- Beside a tree nothing lies in it. -/
theorem beside {l : List It} (hv : validC l = true) {i : Nat} (hi : i < l.length) {z : It} (hz : z ∈ cutC l i (belowN l l[i].id)) : z.parent ∉ (l[i] :: (l.drop (i + 1)).take (belowN l l[i].id)).map It.id := fun hm => by
 obtain ⟨t1, _, t3, t4, _⟩ := tree_at hv hi
 have hc : validC (cutC l i (belowN l l[i].id)) = true := remove_valid hv hi t3 t4 t1
 obtain ⟨y, hy, ey⟩ := List.mem_map.1 hm
 obtain ⟨k, hk, rfl⟩ := List.mem_iff_getElem.1 hz
 rcases parent_ahead hc hk with h0 | ⟨j, hj, h0⟩
 ·rw [h0] at ey
  have hyl : y ∈ l := (mem_three (m := belowN l l[i].id) hi).2 (Or.inl hy)
  exact name_ne (proper_name (valid_proper hv y hyl)) ey
 ·exact three_nodup hv hi y hy _ (List.getElem_mem (show j < (cutC l i (belowN l l[i].id)).length by omega)) (ey.trans h0.symm)
/-- An item does not lie in its own tree. -/
theorem own_parent {l : List It} (hv : validC l = true) {i m : Nat} (hi : i < l.length) : l[i].parent ∉ (l[i] :: (l.drop (i + 1)).take m).map It.id := fun hm => by
 obtain ⟨y, hy, ey⟩ := List.mem_map.1 hm
 have hyl : y ∈ l := (mem_three (m := m) hi).2 (Or.inl hy)
 rcases parent_ahead hv hi with h0 | ⟨j, hj, h0⟩
 ·rw [h0] at ey
  exact name_ne (proper_name (valid_proper hv y hyl)) ey
 ·have hz : l[j] ∈ cutC l i m := by
   unfold cutC
   refine List.mem_append.2 (Or.inl ?_)
   rw [List.mem_take_iff_getElem]
   exact ⟨j, by omega, rfl⟩
  exact three_nodup hv hi y hy _ hz (ey.trans h0.symm)
/-- The place of a move is beside the tree that moves. -/
theorem move_place {l : List It} (hv : validC l = true) {p : Pt} {i : Nat} (hi : i < l.length) (hid : l[i].id = p.id) (hex : existsP l p = true) (hpp : p.parent ≠ p.id) (hpa : p.after ≠ p.id) (hun : p.parent ≠ nil8 → underN l p.parent p.id = false) :
  p.parent ∉ (l[i] :: (l.drop (i + 1)).take (belowN l l[i].id)).map It.id ∧ existsP (cutC l i (belowN l l[i].id)) p = true := by
 obtain ⟨t1, _, t3, t4, t5⟩ := tree_at hv hi
 have hc : validC (cutC l i (belowN l l[i].id)) = true := remove_valid hv hi t3 t4 t1
 obtain ⟨h1, h2⟩ := (exists_iff l p).1 hex
 -- the division is beside the tree
 have hpar : p.parent ∉ (l[i] :: (l.drop (i + 1)).take (belowN l l[i].id)).map It.id := fun hm => by
  obtain ⟨y, hy, ey⟩ := List.mem_map.1 hm
  have hyl : y ∈ l := (mem_three (m := belowN l l[i].id) hi).2 (Or.inl hy)
  have hne : p.parent ≠ nil8 := fun e => name_ne (proper_name (valid_proper hv y hyl)) (ey.trans e)
  have hu := hun hne
  rcases List.mem_cons.1 hy with rfl | hyR
  ·exact hpp (ey.symm.trans hid)
  ·obtain ⟨t, ht, rfl⟩ := List.mem_iff_getElem.1 hyR
   rw [List.length_take, List.length_drop] at ht
   have hk : i + 1 + t < l.length := by omega
   have eg : ((l.drop (i + 1)).take (belowN l l[i].id))[t]'(by rw [List.length_take, List.length_drop]; omega) = l[i + 1 + t] := by
    rw [List.getElem_take, List.getElem_drop]
   rw [eg] at ey
   have hix := idxI_at hv hk
   rw [ey] at hix
   unfold underN at hu
   rw [hix] at hu
   simp only [Bool.or_eq_false_iff] at hu
   obtain ⟨s, hw, _⟩ := valid_walk hv
   have hvl := walk_len (Nat.le_refl _) hw
   have hkv : i + 1 + t < (visits l).length := by omega
   have h9 := (t5 (i + 1 + t) hk (visits l)[i + 1 + t] (List.getElem?_eq_getElem hkv)).2 ⟨by omega, by omega⟩
   have h8 := hu.2
   rw [List.getD_eq_getElem?_getD, List.getElem?_eq_getElem hkv, Option.getD_some] at h8
   exact (inB_no _ _).1 h8 (by rw [← hid]; exact h9)
 refine ⟨hpar, (exists_iff _ p).2 ⟨?_, ?_⟩⟩
 ·rcases h1 with h1 | h1
  ·exact Or.inl h1
  ·obtain ⟨m1, m2⟩ := mem_itemA (l := l) (d := p.parent) (by rw [h1]; decide)
   refine Or.inr ?_
   rcases (mem_three (m := belowN l l[i].id) hi).1 m1 with h | h
   ·exact absurd (List.mem_map.2 ⟨_, h, m2⟩) hpar
   ·have := itemA_mem hc h
    rw [m2] at this
    rw [this]; exact h1
 ·rcases h2 with h2 | ⟨h2, h3⟩
  ·exact Or.inl h2
  ·obtain ⟨m1, m2⟩ := mem_itemA h2
   refine Or.inr ?_
   rcases (mem_three (m := belowN l l[i].id) hi).1 m1 with h | h
   ·exfalso
    rcases List.mem_cons.1 h with h | h
    ·exact hpa (by rw [← m2, h]; exact hid)
    ·have := t3 _ h
     rw [h3] at this
     exact hpar this
   ·have := itemA_mem hc h
    rw [m2] at this
    rw [this]; exact ⟨h2, h3⟩
/-- An item moves, with all below it. -/
theorem move_eff {l : List It} (hv : validC l = true) {p : Pt} {i : Nat} (hi : i < l.length) (hid : l[i].id = p.id) {l' : List It} (h : moveP l p i l[i] = (l', 0)) :
  validC l' = true ∧ (∀ q, kids l' q = if q = p.parent then insK p.after p.id (outK p.id (kids l q)) else outK p.id (kids l q)) ∧ (∀ y, y ∈ l' ↔ y = { l[i] with parent := p.parent } ∨ (y ∈ l ∧ y.id ≠ p.id)) ∧ l'.length = l.length := by
 unfold moveP at h
 split at h
 ·injection h with _ h; exact absurd h (by decide)
 rename_i hc0
 have hex : existsP l p = true := by
  cases he : existsP l p with
  | true => rfl
  | false => exact absurd (Or.inl he) hc0
 have hpp : p.parent ≠ p.id := fun e => hc0 (Or.inr (Or.inl e))
 have hpa : p.after ≠ p.id := fun e => hc0 (Or.inr (Or.inr (Or.inl e)))
 have hun : p.parent ≠ nil8 → underN l p.parent p.id = false := fun hne => by
  cases hu : underN l p.parent p.id with
  | false => rfl
  | true => exact absurd (Or.inr (Or.inr (Or.inr ⟨hne, hu⟩))) hc0
 obtain ⟨hpar, hex1⟩ := move_place hv hi hid hex hpp hpa hun
 obtain ⟨t1, _, t3, t4, _⟩ := tree_at hv hi
 rw [← hid] at h
 injection h with h _
 have hc : validC (cutC l i (belowN l l[i].id)) = true := remove_valid hv hi t3 t4 t1
 obtain ⟨⟨s, n, g1, g2, g3⟩, hks⟩ := place_ok hc hex1
 have hprop : properI { l[i] with parent := p.parent } = true := show properI l[i] = true from valid_proper hv _ (List.getElem_mem hi)
 obtain ⟨hvn, ht'⟩ := move_valid hv hi t1 t3 t4 (x' := { l[i] with parent := p.parent }) rfl rfl hprop g1 g2 g3
 subst h
 have hids : ({ l[i] with parent := p.parent } :: (l.drop (i + 1)).take (belowN l l[i].id)).map It.id = (l[i] :: (l.drop (i + 1)).take (belowN l l[i].id)).map It.id := rfl
 have hown := own_parent hv (m := belowN l l[i].id) hi
 refine ⟨hvn, fun q => ?_, fun y => ?_, ?_⟩
 ·by_cases hq : q ∈ (l[i] :: (l.drop (i + 1)).take (belowN l l[i].id)).map It.id
  ·have hqp : q ≠ p.parent := fun e => hpar (e ▸ hq)
   have hbs : ∀ L : List It, (∀ z ∈ L, z ∈ cutC l i (belowN l l[i].id)) → kids L q = [] := fun L hL => kids_none fun z hz e => beside hv hi (hL z hz) (by rw [e]; exact hq)
   have hnot : p.id ∉ kids l q := fun hm => by
    obtain ⟨x, hx, e1, e2⟩ := mem_kids.1 hm
    obtain ⟨k, hk, rfl⟩ := List.mem_iff_getElem.1 hx
    have := id_inj hv hk hi (e2.trans hid.symm)
    subst this
    exact hown (by rw [e1]; exact hq)
   rw [if_neg hqp, outK_not hnot]
   unfold putP
   have e1 : kids l q = kids (l[i] :: (l.drop (i + 1)).take (belowN l l[i].id)) q := by
    conv => lhs; rw [three l (m := belowN l l[i].id) hi]
    rw [kids_append, kids_append, hbs (l.take i) (fun z hz => List.mem_append.2 (Or.inl hz)), hbs (l.drop (i + 1 + belowN l l[i].id)) (fun z hz => List.mem_append.2 (Or.inr hz)), List.nil_append, List.append_nil]
   rw [kids_append, kids_append, hbs _ (fun z hz => List.mem_of_mem_take hz), hbs _ (fun z hz => List.mem_of_mem_drop hz), List.nil_append, List.append_nil, e1]
   rw [kids_cons_no (x := { l[i] with parent := p.parent }) _ (fun e => hqp e.symm), kids_cons_no (x := l[i]) _ (fun e => hown (by rw [e]; exact hq))]
  ·have hrm2 : kids (cutC l i (belowN l l[i].id)) q = outK p.id (kids l q) := by
    have h9 : kids (cutC l i (belowN l l[i].id)) q = outK l[i].id (kids l q) := kids_remove hv hi t3 hq
    rw [h9, hid]
   unfold putP
   rw [kids_lay ht' (by rw [hids]; exact hq)]
   by_cases hqp : q = p.parent
   ·rw [if_pos (show ({ l[i] with parent := p.parent } : It).parent = q from hqp.symm), if_pos hqp, ← hrm2, hqp, ← hks p.id]
    show _ ++ ([l[i].id] ++ _) = _
    rw [hid]
    rfl
   ·rw [if_neg (show ¬ ({ l[i] with parent := p.parent } : It).parent = q from fun e => hqp e.symm), if_neg hqp, List.nil_append, kids_cut, hrm2]
 ·rw [mem_put]
  constructor
  ·rintro (h | h)
   ·rcases List.mem_cons.1 h with h | h
    ·exact Or.inl h
    ·refine Or.inr ⟨(mem_three (m := belowN l l[i].id) hi).2 (Or.inl (List.mem_cons_of_mem _ h)), fun e => ?_⟩
     obtain ⟨t, ht, rfl⟩ := List.mem_iff_getElem.1 h
     rw [List.length_take, List.length_drop] at ht
     rw [List.getElem_take, List.getElem_drop] at e
     have := id_inj hv (i := i + 1 + t) (by omega) hi (e.trans hid.symm)
     omega
   ·refine Or.inr ⟨(mem_three (m := belowN l l[i].id) hi).2 (Or.inr h), fun e => ?_⟩
    exact three_nodup hv hi l[i] (List.mem_cons_self ..) y h (hid.trans e.symm)
  ·rintro (h | ⟨h, hne⟩)
   ·exact Or.inl (by rw [h]; exact List.mem_cons_self ..)
   ·rcases (mem_three (m := belowN l l[i].id) hi).1 h with h | h
    ·rcases List.mem_cons.1 h with h | h
     ·exact absurd (by rw [h]; exact hid) hne
     ·exact Or.inl (List.mem_cons_of_mem _ h)
    ·exact Or.inr h
 ·unfold putP cutC
  simp only [List.length_append, List.length_cons, List.length_take, List.length_drop]
  omega
end Go.Proofs.Ytgmimhgeigbpkaa.Dg
/- put in general, and insert of package patch. No conditions but those that each theorem states. -/
namespace Go.Proofs.Ytgmimhgeigbpkaa
open Go Go.RowKit Go.Sort Go.Maps
theorem emp_no {s : ByteArray} (h : s ≠ Dg.nil8) : s.toList.isEmpty = false := by rw [← emp_iff]; exact decide_eq_false h
theorem emp_yes {s : ByteArray} (h : s = Dg.nil8) : s.toList.isEmpty = true := by rw [← emp_iff]; exact decide_eq_true h
theorem findX_idx {l : List Dg.It} {d : ByteArray} {i : Nat} (h : Dg.idxI l d = some i) : findX l d = (i : Int) := by rw [idxI_find, h]
theorem findX_no {l : List Dg.It} {d : ByteArray} (h : Dg.idxI l d = none) : findX l d = -1 := by rw [idxI_find, h]
/-- put, where the place exists. -/
theorem put_of (l : List Dg.It) (A : Option Addr) (n c : Nat) (hl : l.length = n) (hn : n ≤ 1048576) (p : Dg.Pt) (ix : Int) (hw : ∀ x ∈ l, ItW x) (hv : Dg.validC l = true) (m : List Dg.It) (k g2 c2 : Nat) (sp2 : List Value) (hm : m.length = k) (hk : 0 < k) (hnk : n + k ≤ 1048576) (hex : Dg.existsP l p = true) (w : World) (hI : Its w w.heap.size A l) (hg2 : w.heap[g2]? = some (.cells (iLay.flat m ++ sp2).toArray 37 (0, 0))) :
  Calls Try.prog 45 #[.agg #[.slice A n c, .int .i64 p.1, .string p.2, .string p.3, .string p.4, .string p.5, .int .i64 p.6.1, .string p.6.2, .string p.6.3, .string p.6.4, .string p.6.5, .string p.6.6, .bool p.6.7, .int .i64 p.7, .string p.8, .string p.9, .int .i64 ix], .slice (some ⟨g2, 0, none⟩) k c2] w fun e w' => ∃ v', e = .returned (.agg #[v']) ∧ Own1 iLay 37 w' w.heap.size v' (Dg.putP l p m) ∧ Below w.heap.size w w' := by
 obtain ⟨h1, h2⟩ := (Dg.exists_iff l p).1 hex
 unfold Dg.putP
 by_cases ha : p.after = Dg.nil8
 ·by_cases hp : p.parent = Dg.nil8
  ·have e : Dg.placeP l p = 0 := by unfold Dg.placeP; rw [if_neg (fun h => h ha), if_neg (fun h => h hp)]
   rw [e]
   exact put_c l A n c hl hn p ix m k g2 c2 sp2 hm hk hnk (emp_yes ha) (emp_yes hp) w hI hg2
  ·have hkd : (Dg.itemA l p.parent).kind = 1 := h1.resolve_left hp
   obtain ⟨j, hj⟩ := Dg.itemA_some (l := l) (d := p.parent) (by rw [hkd]; decide)
   obtain ⟨hjl, _, _⟩ := Dg.itemA_at hj
   have e : Dg.placeP l p = j + 1 := by unfold Dg.placeP; rw [if_neg (fun h => h ha), if_pos hp, hj]; rfl
   rw [e]
   exact put_b l A n c hl hn p ix m k g2 c2 sp2 hm hk hnk j (emp_yes ha) (emp_no hp) (findX_idx hj) (by omega) w hI hg2
 ·obtain ⟨hkd, _⟩ := h2.resolve_left ha
  obtain ⟨j, hj⟩ := Dg.itemA_some hkd
  obtain ⟨hjl, hid, _⟩ := Dg.itemA_at hj
  obtain ⟨t1, _⟩ := Dg.tree_at hv hjl
  have e : Dg.placeP l p = j + (1 + Dg.belowN l p.after) := by
   unfold Dg.placeP
   rw [if_pos ha, hj]
   rfl
  rw [hid] at t1
  rw [e]
  exact put_a l A n c hl hn p ix hw hv m k g2 c2 sp2 hm hk hnk j _ (emp_no ha) (findX_idx hj) rfl (by omega) w hI hg2
/-- A code and an error that come back. -/
def ApR (R : List Dg.It × Int) (w : World) (e : Ending) (w' : World) : Prop := ∃ v', e = .returned (.tuple #[.agg #[v'], .int .i64 R.2]) ∧ Own1 iLay 37 w' w.heap.size v' R.1 ∧ Below w.heap.size w w'
theorem ApR.own {R : List Dg.It} {w w' : World} {e : Ending} {v' : Value} {B : Nat} (he : e = .returned (.tuple #[.agg #[v'], .int .i64 0])) (hO : Own1 iLay 37 w' B v' R) (hB : w.heap.size ≤ B) (hb : Below w.heap.size w w') : ApR (R, 0) w e w' := ⟨v', he, own_weak hO hB, hb⟩
theorem ApR.err {k : Int} {w w' : World} {e : Ending} (he : e = .returned (.tuple #[.agg #[.slice none 0 0], .int .i64 k])) (hb : Below w.heap.size w w') : ApR ([], k) w e w' := ⟨_, he, Own1.nil iLay 37 w' _, hb⟩
set_option maxRecDepth 100000 in
set_option maxHeartbeats 8000000 in
attribute [-go_sem] Instr.storeAt in
theorem insert_t (l : List Dg.It) (A : Option Addr) (n c : Nat) (hl : l.length = n) (_hn : n ≤ 1048576) (p : Dg.Pt) (ix : Int) (h0 : 0 ≤ ix) (w : World) (hI : Its w w.heap.size A l) :
  Calls Try.prog 26 #[.agg #[.slice A n c, .int .i64 p.1, .string p.2, .string p.3, .string p.4, .string p.5, .int .i64 p.6.1, .string p.6.2, .string p.6.3, .string p.6.4, .string p.6.5, .string p.6.6, .bool p.6.7, .int .i64 p.7, .string p.8, .string p.9, .int .i64 ix]] w (ApR ([], 9) w) := by
 obtain ⟨r1, r2, hb, hs⟩ := iAlloc2 w (.cells #[.slice A n c, .int .i64 p.1, .string p.2, .string p.3, .string p.4, .string p.5, .int .i64 p.6.1, .string p.6.2, .string p.6.3, .string p.6.4, .string p.6.5, .string p.6.6, .bool p.6.7, .int .i64 p.7, .string p.8, .string p.9, .int .i64 ix] 68) (.cells #[.slice none 0 0] 24)
 have HI := hide (hI.keep hb); have HL := hide hl; have HS := hide hs
 clear hI hl hs
 have hcs := jC17 r1
 have c0 := hcs.1; have c16 := hcs.2.2.2.2.2.2.2.2.2.2.2.2.2.2.2.2
 clear hcs
 go_enter Try.func26, Try.ntmps26
 go_upto_region 2 with (fail)
 generalize (w.alloc (.cells #[.slice A n c, .int .i64 p.1, .string p.2, .string p.3, .string p.4, .string p.5, .int .i64 p.6.1, .string p.6.2, .string p.6.3, .string p.6.4, .string p.6.5, .string p.6.6, .bool p.6.7, .int .i64 p.7, .string p.8, .string p.9, .int .i64 ix] 68)).alloc (.cells #[.slice none 0 0] 24) = W1 at *
 clear c0 c16
 have hst := store_part (ty := 24) W1 (w.heap.size + 1) 0 #[.slice none 0 0] (.agg #[.slice none 0 0]) #[.slice none 0 0] r2 infoCode1 (Nat.le_refl _) (one_code _ _ _) rfl
 have r25 := setRow_heap W1 (w.heap.size + 1) _ #[.slice none 0 0] _ _ r2
 have hb8 := below_setRow hb (by omega) (g := w.heap.size + 1) #[.slice none 0 0]
 go_wp2
 refine bodyPost_ret (results_c8 Try.results26 _ _ (w.heap.size + 1) 24 #[.slice none 0 0] (0, 0) _ rfl r25 Try.underlying24 (by kernel_rfl)) rfl (ApR.err rfl hb8)
set_option maxRecDepth 100000 in
set_option maxHeartbeats 8000000 in
attribute [-go_sem] Instr.storeAt in
theorem insert_p (l : List Dg.It) (A : Option Addr) (n c : Nat) (hl : l.length = n) (hn : n ≤ 1048576) (p : Dg.Pt) (ix : Int) (h0 : ix < 0) (hex : Dg.existsP l p = false) (w : World) (hI : Its w w.heap.size A l) :
  Calls Try.prog 26 #[.agg #[.slice A n c, .int .i64 p.1, .string p.2, .string p.3, .string p.4, .string p.5, .int .i64 p.6.1, .string p.6.2, .string p.6.3, .string p.6.4, .string p.6.5, .string p.6.6, .bool p.6.7, .int .i64 p.7, .string p.8, .string p.9, .int .i64 ix]] w (ApR ([], 14) w) := by
 obtain ⟨r1, r2, hb, hs⟩ := iAlloc2 w (.cells #[.slice A n c, .int .i64 p.1, .string p.2, .string p.3, .string p.4, .string p.5, .int .i64 p.6.1, .string p.6.2, .string p.6.3, .string p.6.4, .string p.6.5, .string p.6.6, .bool p.6.7, .int .i64 p.7, .string p.8, .string p.9, .int .i64 ix] 68) (.cells #[.slice none 0 0] 24)
 have HI := hide (hI.keep hb); have HL := hide hl; have HS := hide hs
 clear hI hl hs
 have hcs := jC17 r1
 have c0 := hcs.1; have c16 := hcs.2.2.2.2.2.2.2.2.2.2.2.2.2.2.2.2
 clear hcs
 have HEX := hide hex
 clear hex
 have hR17 := hide (range_of r1 0 [.slice A n c, .int .i64 p.1, .string p.2, .string p.3, .string p.4, .string p.5, .int .i64 p.6.1, .string p.6.2, .string p.6.3, .string p.6.4, .string p.6.5, .string p.6.6, .bool p.6.7, .int .i64 p.7, .string p.8, .string p.9, .int .i64 ix] rfl)
 go_enter Try.func26, Try.ntmps26
 go_wp2_with (with_reducible refine wpList_load_mid rfl 68 (.tmp 1) rfl w.heap.size 0 rfl _ _ hR17.out Try.underlying68 rfl (by kernel_rfl) ?_)
 generalize (w.alloc (.cells #[.slice A n c, .int .i64 p.1, .string p.2, .string p.3, .string p.4, .string p.5, .int .i64 p.6.1, .string p.6.2, .string p.6.3, .string p.6.4, .string p.6.5, .string p.6.6, .bool p.6.7, .int .i64 p.7, .string p.8, .string p.9, .int .i64 ix] 68)).alloc (.cells #[.slice none 0 0] 24) = W1 at *
 refine (exists_of l A n c HL.out hn p ix W1 HI.out false HEX.out).mono ?_
 rintro e w2 ⟨rfl, hbq⟩
 have r12 := iNext r1 hbq
 have r22 := iNext r2 hbq
 have hb2 := bnext hb hbq
 have HI2 := hide (HI.out.keep hbq)
 have hsz2 : w.heap.size + 2 ≤ w2.heap.size := by have := hbq.size; have := HS.out; omega
 clear hbq hb r1 r2 HI c0 c16 hR17
 have hst := store_part (ty := 24) w2 (w.heap.size + 1) 0 #[.slice none 0 0] (.agg #[.slice none 0 0]) #[.slice none 0 0] r22 infoCode1 (Nat.le_refl _) (one_code _ _ _) rfl
 have r25 := setRow_heap w2 (w.heap.size + 1) _ #[.slice none 0 0] _ _ r22
 have hb8 := below_setRow hb2 (by omega) (g := w.heap.size + 1) #[.slice none 0 0]
 go_wp2
 refine bodyPost_ret (results_c8 Try.results26 _ _ (w.heap.size + 1) 24 #[.slice none 0 0] (0, 0) _ rfl r25 Try.underlying24 (by kernel_rfl)) rfl (ApR.err rfl hb8)
set_option maxRecDepth 100000 in
set_option maxHeartbeats 8000000 in
attribute [-go_sem] Instr.storeAt in
theorem insert_m (l : List Dg.It) (A : Option Addr) (n c : Nat) (hl : l.length = n) (hn : n ≤ 1048576) (p : Dg.Pt) (ix : Int) (h0 : ix < 0) (hex : Dg.existsP l p = true) (hmx : (2000 : Int) ≤ (n : Int)) (w : World) (hI : Its w w.heap.size A l) :
  Calls Try.prog 26 #[.agg #[.slice A n c, .int .i64 p.1, .string p.2, .string p.3, .string p.4, .string p.5, .int .i64 p.6.1, .string p.6.2, .string p.6.3, .string p.6.4, .string p.6.5, .string p.6.6, .bool p.6.7, .int .i64 p.7, .string p.8, .string p.9, .int .i64 ix]] w (ApR ([], 2) w) := by
 obtain ⟨r1, r2, hb, hs⟩ := iAlloc2 w (.cells #[.slice A n c, .int .i64 p.1, .string p.2, .string p.3, .string p.4, .string p.5, .int .i64 p.6.1, .string p.6.2, .string p.6.3, .string p.6.4, .string p.6.5, .string p.6.6, .bool p.6.7, .int .i64 p.7, .string p.8, .string p.9, .int .i64 ix] 68) (.cells #[.slice none 0 0] 24)
 have HI := hide (hI.keep hb); have HL := hide hl; have HS := hide hs
 clear hI hl hs
 have hcs := jC17 r1
 have c0 := hcs.1; have c16 := hcs.2.2.2.2.2.2.2.2.2.2.2.2.2.2.2.2
 clear hcs
 have HEX := hide hex
 clear hex
 have hR17 := hide (range_of r1 0 [.slice A n c, .int .i64 p.1, .string p.2, .string p.3, .string p.4, .string p.5, .int .i64 p.6.1, .string p.6.2, .string p.6.3, .string p.6.4, .string p.6.5, .string p.6.6, .bool p.6.7, .int .i64 p.7, .string p.8, .string p.9, .int .i64 ix] rfl)
 go_enter Try.func26, Try.ntmps26
 go_wp2_with (with_reducible refine wpList_load_mid rfl 68 (.tmp 1) rfl w.heap.size 0 rfl _ _ hR17.out Try.underlying68 rfl (by kernel_rfl) ?_)
 generalize (w.alloc (.cells #[.slice A n c, .int .i64 p.1, .string p.2, .string p.3, .string p.4, .string p.5, .int .i64 p.6.1, .string p.6.2, .string p.6.3, .string p.6.4, .string p.6.5, .string p.6.6, .bool p.6.7, .int .i64 p.7, .string p.8, .string p.9, .int .i64 ix] 68)).alloc (.cells #[.slice none 0 0] 24) = W1 at *
 refine (exists_of l A n c HL.out hn p ix W1 HI.out true HEX.out).mono ?_
 rintro e w2 ⟨rfl, hbq⟩
 have r12 := iNext r1 hbq
 have r22 := iNext r2 hbq
 have hb2 := bnext hb hbq
 have HI2 := hide (HI.out.keep hbq)
 have hsz2 : w.heap.size + 2 ≤ w2.heap.size := by have := hbq.size; have := HS.out; omega
 clear hbq hb r1 r2 HI c0 c16 hR17
 have c0 := (jC17 r12).1
 go_upto_region 6 with (fail)
 clear c0
 have hst := store_part (ty := 24) w2 (w.heap.size + 1) 0 #[.slice none 0 0] (.agg #[.slice none 0 0]) #[.slice none 0 0] r22 infoCode1 (Nat.le_refl _) (one_code _ _ _) rfl
 have r25 := setRow_heap w2 (w.heap.size + 1) _ #[.slice none 0 0] _ _ r22
 have hb8 := below_setRow hb2 (by omega) (g := w.heap.size + 1) #[.slice none 0 0]
 go_wp2
 refine bodyPost_ret (results_c8 Try.results26 _ _ (w.heap.size + 1) 24 #[.slice none 0 0] (0, 0) _ rfl r25 Try.underlying24 (by kernel_rfl)) rfl (ApR.err rfl hb8)
set_option maxRecDepth 100000 in
set_option maxHeartbeats 8000000 in
attribute [-go_sem] Instr.storeAt in
theorem insert_o (l : List Dg.It) (A : Option Addr) (n c : Nat) (hl : l.length = n) (hn : n ≤ 1048576) (p : Dg.Pt) (ix : Int) (hw : ∀ x ∈ l, ItW x) (hv : Dg.validC l = true) (h0 : ix < 0) (hex : Dg.existsP l p = true) (hmx : ¬ (2000 : Int) ≤ (n : Int)) (w : World) (hI : Its w w.heap.size A l) :
  Calls Try.prog 26 #[.agg #[.slice A n c, .int .i64 p.1, .string p.2, .string p.3, .string p.4, .string p.5, .int .i64 p.6.1, .string p.6.2, .string p.6.3, .string p.6.4, .string p.6.5, .string p.6.6, .bool p.6.7, .int .i64 p.7, .string p.8, .string p.9, .int .i64 ix]] w (ApR (Dg.putP l p [p.item], 0) w) := by
 obtain ⟨r1, r2, hb, hs⟩ := iAlloc2 w (.cells #[.slice A n c, .int .i64 p.1, .string p.2, .string p.3, .string p.4, .string p.5, .int .i64 p.6.1, .string p.6.2, .string p.6.3, .string p.6.4, .string p.6.5, .string p.6.6, .bool p.6.7, .int .i64 p.7, .string p.8, .string p.9, .int .i64 ix] 68) (.cells #[.slice none 0 0] 24)
 have HI := hide (hI.keep hb); have HL := hide hl; have HS := hide hs
 clear hI hl hs
 have hcs := jC17 r1
 have c0 := hcs.1; have c16 := hcs.2.2.2.2.2.2.2.2.2.2.2.2.2.2.2.2
 clear hcs
 have HEX := hide hex; have HW := hide hw; have HV := hide hv
 clear hex hw hv
 have hR17 := hide (range_of r1 0 [.slice A n c, .int .i64 p.1, .string p.2, .string p.3, .string p.4, .string p.5, .int .i64 p.6.1, .string p.6.2, .string p.6.3, .string p.6.4, .string p.6.5, .string p.6.6, .bool p.6.7, .int .i64 p.7, .string p.8, .string p.9, .int .i64 ix] rfl)
 go_enter Try.func26, Try.ntmps26
 go_wp2_with (with_reducible refine wpList_load_mid rfl 68 (.tmp 1) rfl w.heap.size 0 rfl _ _ hR17.out Try.underlying68 rfl (by kernel_rfl) ?_)
 generalize (w.alloc (.cells #[.slice A n c, .int .i64 p.1, .string p.2, .string p.3, .string p.4, .string p.5, .int .i64 p.6.1, .string p.6.2, .string p.6.3, .string p.6.4, .string p.6.5, .string p.6.6, .bool p.6.7, .int .i64 p.7, .string p.8, .string p.9, .int .i64 ix] 68)).alloc (.cells #[.slice none 0 0] 24) = W1 at *
 refine (exists_of l A n c HL.out hn p ix W1 HI.out true HEX.out).mono ?_
 rintro e w2 ⟨rfl, hbq⟩
 have r12 := iNext r1 hbq
 have r22 := iNext r2 hbq
 have hb2 := bnext hb hbq
 have HI2 := hide (HI.out.keep hbq)
 have hsz2 : w.heap.size + 2 ≤ w2.heap.size := by have := hbq.size; have := HS.out; omega
 clear hbq hb r1 r2 HI c0 c16 hR17
 have c0 := (jC17 r12).1
 go_upto_region 7 with (fail)
 clear c0
 have hR17 := hide (range_of r12 0 [.slice A n c, .int .i64 p.1, .string p.2, .string p.3, .string p.4, .string p.5, .int .i64 p.6.1, .string p.6.2, .string p.6.3, .string p.6.4, .string p.6.5, .string p.6.6, .bool p.6.7, .int .i64 p.7, .string p.8, .string p.9, .int .i64 ix] rfl)
 have hRI := hide (range_of r12 6 [.int .i64 p.item.1, .string p.item.2, .string p.item.3, .string p.item.4, .string p.item.5, .string p.item.6, .bool p.item.7] rfl)
 go_wp2_with (first | (with_reducible refine wpList_load_mid rfl 68 (.tmp 1) rfl w.heap.size 0 rfl _ _ hR17.out Try.underlying68 rfl (by kernel_rfl) ?_) | (with_reducible refine wpList_load_mid rfl 37 (.tmp 23) rfl w.heap.size 6 rfl _ _ hRI.out Try.underlying37 rfl (by kernel_rfl) ?_))
 clear hR17 hRI
 have hbn := Below.news (Below.refl w2.heap.size w2) (.cells #[.int .i64 p.item.1, .string p.item.2, .string p.item.3, .string p.item.4, .string p.item.5, .string p.item.6, .bool p.item.7] 37)
 have hgn : (w2.alloc (.cells #[.int .i64 p.item.1, .string p.item.2, .string p.item.3, .string p.item.4, .string p.item.5, .string p.item.6, .bool p.item.7] 37)).heap[w2.heap.size]? = some (.cells (iLay.flat [p.item] ++ []).toArray 37 (0, 0)) := heap_alloc_new w2 (.cells #[.int .i64 p.item.1, .string p.item.2, .string p.item.3, .string p.item.4, .string p.item.5, .string p.item.6, .bool p.item.7] 37)
 have r23 := iNext r22 hbn
 have hb3 := bnext hb2 hbn
 have HI3 := hide (HI2.out.keep hbn)
 clear hbn hb2 r12 r22 HI2
 generalize w2.alloc (.cells #[.int .i64 p.item.1, .string p.item.2, .string p.item.3, .string p.item.4, .string p.item.5, .string p.item.6, .bool p.item.7] 37) = w3 at *
 refine (put_of l A n c HL.out hn p ix HW.out HV.out [p.item] 1 w2.heap.size 1 [] rfl (by omega) (by omega) HEX.out w3 HI3.out hgn).mono ?_
 rintro e w4 ⟨v2, rfl, hO2, hb5⟩
 clear hgn
 obtain ⟨A2, c2', hv2, _, _⟩ := hO2.row
 obtain ⟨m', hm'⟩ : ∃ m', (Dg.putP l p [p.item]).length = m' := ⟨_, rfl⟩
 rw [hm'] at hv2
 clear hm'
 subst hv2
 have hl3 := lt_of_block r23
 have r24 := iNext r23 hb5
 have hb6 := bnext hb3 hb5
 have hst := store_part (ty := 24) w4 (w.heap.size + 1) 0 #[.slice none 0 0] (.agg #[.slice A2 m' c2']) #[.slice A2 m' c2'] r24 infoCode1 (Nat.le_refl _) (one_code _ _ _) rfl
 have r25 := setRow_heap w4 (w.heap.size + 1) _ #[.slice A2 m' c2'] _ _ r24
 have hb8 := below_setRow hb6 (by omega) (g := w.heap.size + 1) #[.slice A2 m' c2']
 have HO2 := hide (own_other hO2 (g := w.heap.size + 1) (fun e => by have := (World.ownsRow.lt hO2 _ e).1; omega) #[.slice A2 m' c2'])
 clear hO2 hb5 hb6 r23 r24 hb3 HI3
 go_wp2
 refine bodyPost_ret (results_c8 Try.results26 _ _ (w.heap.size + 1) 24 #[.slice A2 m' c2'] (0, 0) _ rfl r25 Try.underlying24 (by kernel_rfl)) rfl (ApR.own rfl HO2.out (by omega) hb8)
/-- insert. -/
theorem insert_of (l : List Dg.It) (A : Option Addr) (n c : Nat) (hl : l.length = n) (hn : n ≤ 1048576) (p : Dg.Pt) (ix : Int) (hw : ∀ x ∈ l, ItW x) (hv : Dg.validC l = true) (hix : findX l p.id = ix) (w : World) (hI : Its w w.heap.size A l) :
  Calls Try.prog 26 #[.agg #[.slice A n c, .int .i64 p.1, .string p.2, .string p.3, .string p.4, .string p.5, .int .i64 p.6.1, .string p.6.2, .string p.6.3, .string p.6.4, .string p.6.5, .string p.6.6, .bool p.6.7, .int .i64 p.7, .string p.8, .string p.9, .int .i64 ix]] w (ApR (Dg.insertP l p) w) := by
 unfold Dg.insertP
 cases hi : Dg.idxI l p.id with
 | some i =>
  rw [findX_idx hi] at hix
  subst hix
  exact insert_t l A n c hl hn p (i : Int) (by omega) w hI
 | none =>
  rw [findX_no hi] at hix
  subst hix
  simp only [Option.isSome_none, Bool.false_eq_true, if_false]
  cases hex : Dg.existsP l p with
  | false =>
   rw [if_pos rfl]
   exact insert_p l A n c hl hn p (-1) (by omega) hex w hI
  | true =>
   rw [if_neg (by decide)]
   by_cases hm : 2000 ≤ l.length
   ·rw [if_pos hm]
    exact insert_m l A n c hl hn p (-1) (by omega) hex (by omega) w hI
   ·rw [if_neg hm]
    exact insert_o l A n c hl hn p (-1) hw hv (by omega) hex (by omega) w hI
end Go.Proofs.Ytgmimhgeigbpkaa
/- move of package patch. No conditions but those that each theorem states. -/
namespace Go.Proofs.Ytgmimhgeigbpkaa
open Go Go.RowKit Go.Sort Go.Maps
theorem sub_cons {l : List Dg.It} {i : Nat} (hi : i < l.length) (K : Nat) : (l.drop i).take (1 + K) = l[i] :: (l.drop (i + 1)).take K := by
 rw [Nat.add_comm, List.drop_eq_getElem_cons hi, List.take_succ_cons]
theorem Its.sub {w : World} {B b off : Nat} {l : List Dg.It} (h : Its w B (Option.some ⟨b, off, none⟩) l) (i k : Nat) : Its w B (Option.some ⟨b, off + i * 7, none⟩) ((l.drop i).take k) := ((h.row.drop i).take k).its
set_option maxRecDepth 100000 in
set_option maxHeartbeats 8000000 in
attribute [-go_sem] Instr.storeAt in
theorem move_e (l : List Dg.It) (b off : Nat) (n c : Nat) (hl : l.length = n) (hn : n ≤ 1048576) (p : Dg.Pt) (i : Nat) (hex : Dg.existsP l p = false) (w : World) (hI : Its w w.heap.size (some ⟨b, off, none⟩) l) :
  Calls Try.prog 29 #[.agg #[.slice (some ⟨b, off, none⟩) n c, .int .i64 p.1, .string p.2, .string p.3, .string p.4, .string p.5, .int .i64 p.6.1, .string p.6.2, .string p.6.3, .string p.6.4, .string p.6.5, .string p.6.6, .bool p.6.7, .int .i64 p.7, .string p.8, .string p.9, .int .i64 i]] w (ApR ([], 14) w) := by
 obtain ⟨r1, r2, hb, hs⟩ := iAlloc2 w (.cells #[.slice (some ⟨b, off, none⟩) n c, .int .i64 p.1, .string p.2, .string p.3, .string p.4, .string p.5, .int .i64 p.6.1, .string p.6.2, .string p.6.3, .string p.6.4, .string p.6.5, .string p.6.6, .bool p.6.7, .int .i64 p.7, .string p.8, .string p.9, .int .i64 i] 68) (.cells #[.slice none 0 0] 24)
 have HI := hide (hI.keep hb); have HL := hide hl; have HX := hide hex
 have hRG := hide (range_of r1 1 [.int .i64 p.1, .string p.2, .string p.3, .string p.4, .string p.5, .int .i64 p.6.1, .string p.6.2, .string p.6.3, .string p.6.4, .string p.6.5, .string p.6.6, .bool p.6.7, .int .i64 p.7, .string p.8, .string p.9] rfl)
 clear hI hl hex
 go_enter Try.func29, Try.ntmps29
 go_upto_region 1 with (fail)
 have hsz : w.heap.size + 2 ≤ ((w.alloc (.cells #[.slice (some ⟨b, off, none⟩) n c, .int .i64 p.1, .string p.2, .string p.3, .string p.4, .string p.5, .int .i64 p.6.1, .string p.6.2, .string p.6.3, .string p.6.4, .string p.6.5, .string p.6.6, .bool p.6.7, .int .i64 p.7, .string p.8, .string p.9, .int .i64 i] 68)).alloc (.cells #[.slice none 0 0] 24)).heap.size := by omega
 clear hs
 generalize (w.alloc (.cells #[.slice (some ⟨b, off, none⟩) n c, .int .i64 p.1, .string p.2, .string p.3, .string p.4, .string p.5, .int .i64 p.6.1, .string p.6.2, .string p.6.3, .string p.6.4, .string p.6.5, .string p.6.6, .bool p.6.7, .int .i64 p.7, .string p.8, .string p.9, .int .i64 i] 68)).alloc (.cells #[.slice none 0 0] 24) = W1 at *
 have hst := store_new (ty := 39) (T := 39) W1 #[.int .i64 0, .string ⟨#[]⟩, .string ⟨#[]⟩, .string ⟨#[]⟩, .string ⟨#[]⟩, .int .i64 0, .string ⟨#[]⟩, .string ⟨#[]⟩, .string ⟨#[]⟩, .string ⟨#[]⟩, .string ⟨#[]⟩, .bool false, .int .i64 0, .string ⟨#[]⟩, .string ⟨#[]⟩] #[.int .i64 p.1, .string p.2, .string p.3, .string p.4, .string p.5, .int .i64 p.6.1, .string p.6.2, .string p.6.3, .string p.6.4, .string p.6.5, .string p.6.6, .bool p.6.7, .int .i64 p.7, .string p.8, .string p.9] (by kernel_rfl) rfl (all_oneCell_toArray (ptL.one p))
 go_upto_region 2 with (with_reducible refine wpList_load_mid rfl 39 (.tmp 7) rfl w.heap.size 1 rfl _ _ hRG.out Try.underlying39 rfl (by kernel_rfl) ?_)
 clear hst hRG
 have r4 := heap_alloc_new W1 (.cells #[.int .i64 p.1, .string p.2, .string p.3, .string p.4, .string p.5, .int .i64 p.6.1, .string p.6.2, .string p.6.3, .string p.6.4, .string p.6.5, .string p.6.6, .bool p.6.7, .int .i64 p.7, .string p.8, .string p.9] 39)
 have hbn := Below.news (Below.refl W1.heap.size W1) (.cells #[.int .i64 p.1, .string p.2, .string p.3, .string p.4, .string p.5, .int .i64 p.6.1, .string p.6.2, .string p.6.3, .string p.6.4, .string p.6.5, .string p.6.6, .bool p.6.7, .int .i64 p.7, .string p.8, .string p.9] 39)
 have r12 := iNext r1 hbn
 have r22 := iNext r2 hbn
 have HI2 := hide (HI.out.keep hbn)
 have hb3 := bnext hb hbn
 obtain ⟨b4, hb4⟩ : ∃ b4, b4 = W1.heap.size := ⟨_, rfl⟩
 have HB4 := hide hb4
 rw [← hb4] at r4 hsz ⊢
 clear hbn hb r1 r2 HI hb4
 generalize W1.alloc (.cells #[.int .i64 p.1, .string p.2, .string p.3, .string p.4, .string p.5, .int .i64 p.6.1, .string p.6.2, .string p.6.3, .string p.6.4, .string p.6.5, .string p.6.6, .bool p.6.7, .int .i64 p.7, .string p.8, .string p.9] 39) = w2 at *
 clear HB4
 have hR17 := hide (range_of r12 0 [.slice (some ⟨b, off, none⟩) n c, .int .i64 p.1, .string p.2, .string p.3, .string p.4, .string p.5, .int .i64 p.6.1, .string p.6.2, .string p.6.3, .string p.6.4, .string p.6.5, .string p.6.6, .bool p.6.7, .int .i64 p.7, .string p.8, .string p.9, .int .i64 i] rfl)
 go_wp2_with (with_reducible refine wpList_load_mid rfl 68 (.tmp 1) rfl w.heap.size 0 rfl _ _ hR17.out Try.underlying68 rfl (by kernel_rfl) ?_)
 refine (exists_of l (some ⟨b, off, none⟩) n c HL.out hn p (i : Int) w2 HI2.out false HX.out).mono ?_
 rintro e w3 ⟨rfl, hbq⟩
 clear hR17
 have r13 := iNext r12 hbq
 have r23 := iNext r22 hbq
 have r43 := iNext r4 hbq
 have HI3 := hide (HI2.out.keep hbq)
 have hb5 := bnext hb3 hbq
 clear hbq hb3 r12 r22 r4 HI2
 have hcs := jC15 r43
 have k1 := hcs.2.1; have k2 := hcs.2.2.1; have k3 := hcs.2.2.2.1
 clear hcs
 have hst := store_part (ty := 24) w3 (w.heap.size + 1) 0 #[.slice none 0 0] (.agg #[.slice none 0 0]) #[.slice none 0 0] r23 infoCode1 (Nat.le_refl _) (one_code _ _ _) rfl
 have r25 := setRow_heap w3 (w.heap.size + 1) _ #[.slice none 0 0] _ _ r23
 have hb8 := below_setRow hb5 (by omega) (g := w.heap.size + 1) #[.slice none 0 0]
 go_wp2
 refine bodyPost_ret (results_c8 Try.results29 _ _ (w.heap.size + 1) 24 #[.slice none 0 0] (0, 0) _ rfl r25 Try.underlying24 (by kernel_rfl)) rfl (ApR.err rfl hb8)
set_option maxRecDepth 100000 in
set_option maxHeartbeats 8000000 in
attribute [-go_sem] Instr.storeAt in
theorem move_1 (l : List Dg.It) (b off : Nat) (n c : Nat) (hl : l.length = n) (hn : n ≤ 1048576) (p : Dg.Pt) (i : Nat) (hex : Dg.existsP l p = true) (h1 : (p.parent.toList == p.id.toList) = true) (w : World) (hI : Its w w.heap.size (some ⟨b, off, none⟩) l) :
  Calls Try.prog 29 #[.agg #[.slice (some ⟨b, off, none⟩) n c, .int .i64 p.1, .string p.2, .string p.3, .string p.4, .string p.5, .int .i64 p.6.1, .string p.6.2, .string p.6.3, .string p.6.4, .string p.6.5, .string p.6.6, .bool p.6.7, .int .i64 p.7, .string p.8, .string p.9, .int .i64 i]] w (ApR ([], 14) w) := by
 obtain ⟨r1, r2, hb, hs⟩ := iAlloc2 w (.cells #[.slice (some ⟨b, off, none⟩) n c, .int .i64 p.1, .string p.2, .string p.3, .string p.4, .string p.5, .int .i64 p.6.1, .string p.6.2, .string p.6.3, .string p.6.4, .string p.6.5, .string p.6.6, .bool p.6.7, .int .i64 p.7, .string p.8, .string p.9, .int .i64 i] 68) (.cells #[.slice none 0 0] 24)
 have HI := hide (hI.keep hb); have HL := hide hl; have HX := hide hex
 have hRG := hide (range_of r1 1 [.int .i64 p.1, .string p.2, .string p.3, .string p.4, .string p.5, .int .i64 p.6.1, .string p.6.2, .string p.6.3, .string p.6.4, .string p.6.5, .string p.6.6, .bool p.6.7, .int .i64 p.7, .string p.8, .string p.9] rfl)
 clear hI hl hex
 go_enter Try.func29, Try.ntmps29
 go_upto_region 1 with (fail)
 have hsz : w.heap.size + 2 ≤ ((w.alloc (.cells #[.slice (some ⟨b, off, none⟩) n c, .int .i64 p.1, .string p.2, .string p.3, .string p.4, .string p.5, .int .i64 p.6.1, .string p.6.2, .string p.6.3, .string p.6.4, .string p.6.5, .string p.6.6, .bool p.6.7, .int .i64 p.7, .string p.8, .string p.9, .int .i64 i] 68)).alloc (.cells #[.slice none 0 0] 24)).heap.size := by omega
 clear hs
 generalize (w.alloc (.cells #[.slice (some ⟨b, off, none⟩) n c, .int .i64 p.1, .string p.2, .string p.3, .string p.4, .string p.5, .int .i64 p.6.1, .string p.6.2, .string p.6.3, .string p.6.4, .string p.6.5, .string p.6.6, .bool p.6.7, .int .i64 p.7, .string p.8, .string p.9, .int .i64 i] 68)).alloc (.cells #[.slice none 0 0] 24) = W1 at *
 have hst := store_new (ty := 39) (T := 39) W1 #[.int .i64 0, .string ⟨#[]⟩, .string ⟨#[]⟩, .string ⟨#[]⟩, .string ⟨#[]⟩, .int .i64 0, .string ⟨#[]⟩, .string ⟨#[]⟩, .string ⟨#[]⟩, .string ⟨#[]⟩, .string ⟨#[]⟩, .bool false, .int .i64 0, .string ⟨#[]⟩, .string ⟨#[]⟩] #[.int .i64 p.1, .string p.2, .string p.3, .string p.4, .string p.5, .int .i64 p.6.1, .string p.6.2, .string p.6.3, .string p.6.4, .string p.6.5, .string p.6.6, .bool p.6.7, .int .i64 p.7, .string p.8, .string p.9] (by kernel_rfl) rfl (all_oneCell_toArray (ptL.one p))
 go_upto_region 2 with (with_reducible refine wpList_load_mid rfl 39 (.tmp 7) rfl w.heap.size 1 rfl _ _ hRG.out Try.underlying39 rfl (by kernel_rfl) ?_)
 clear hst hRG
 have r4 := heap_alloc_new W1 (.cells #[.int .i64 p.1, .string p.2, .string p.3, .string p.4, .string p.5, .int .i64 p.6.1, .string p.6.2, .string p.6.3, .string p.6.4, .string p.6.5, .string p.6.6, .bool p.6.7, .int .i64 p.7, .string p.8, .string p.9] 39)
 have hbn := Below.news (Below.refl W1.heap.size W1) (.cells #[.int .i64 p.1, .string p.2, .string p.3, .string p.4, .string p.5, .int .i64 p.6.1, .string p.6.2, .string p.6.3, .string p.6.4, .string p.6.5, .string p.6.6, .bool p.6.7, .int .i64 p.7, .string p.8, .string p.9] 39)
 have r12 := iNext r1 hbn
 have r22 := iNext r2 hbn
 have HI2 := hide (HI.out.keep hbn)
 have hb3 := bnext hb hbn
 obtain ⟨b4, hb4⟩ : ∃ b4, b4 = W1.heap.size := ⟨_, rfl⟩
 have HB4 := hide hb4
 rw [← hb4] at r4 hsz ⊢
 clear hbn hb r1 r2 HI hb4
 generalize W1.alloc (.cells #[.int .i64 p.1, .string p.2, .string p.3, .string p.4, .string p.5, .int .i64 p.6.1, .string p.6.2, .string p.6.3, .string p.6.4, .string p.6.5, .string p.6.6, .bool p.6.7, .int .i64 p.7, .string p.8, .string p.9] 39) = w2 at *
 clear HB4
 have hR17 := hide (range_of r12 0 [.slice (some ⟨b, off, none⟩) n c, .int .i64 p.1, .string p.2, .string p.3, .string p.4, .string p.5, .int .i64 p.6.1, .string p.6.2, .string p.6.3, .string p.6.4, .string p.6.5, .string p.6.6, .bool p.6.7, .int .i64 p.7, .string p.8, .string p.9, .int .i64 i] rfl)
 go_wp2_with (with_reducible refine wpList_load_mid rfl 68 (.tmp 1) rfl w.heap.size 0 rfl _ _ hR17.out Try.underlying68 rfl (by kernel_rfl) ?_)
 refine (exists_of l (some ⟨b, off, none⟩) n c HL.out hn p (i : Int) w2 HI2.out true HX.out).mono ?_
 rintro e w3 ⟨rfl, hbq⟩
 clear hR17
 have r13 := iNext r12 hbq
 have r23 := iNext r22 hbq
 have r43 := iNext r4 hbq
 have HI3 := hide (HI2.out.keep hbq)
 have hb5 := bnext hb3 hbq
 clear hbq hb3 r12 r22 r4 HI2
 have hcs := jC15 r43
 have k1 := hcs.2.1; have k2 := hcs.2.2.1; have k3 := hcs.2.2.2.1
 clear hcs
 have hst := store_part (ty := 24) w3 (w.heap.size + 1) 0 #[.slice none 0 0] (.agg #[.slice none 0 0]) #[.slice none 0 0] r23 infoCode1 (Nat.le_refl _) (one_code _ _ _) rfl
 have r25 := setRow_heap w3 (w.heap.size + 1) _ #[.slice none 0 0] _ _ r23
 have hb8 := below_setRow hb5 (by omega) (g := w.heap.size + 1) #[.slice none 0 0]
 go_wp2
 refine bodyPost_ret (results_c8 Try.results29 _ _ (w.heap.size + 1) 24 #[.slice none 0 0] (0, 0) _ rfl r25 Try.underlying24 (by kernel_rfl)) rfl (ApR.err rfl hb8)
set_option maxRecDepth 100000 in
set_option maxHeartbeats 8000000 in
attribute [-go_sem] Instr.storeAt in
theorem move_2 (l : List Dg.It) (b off : Nat) (n c : Nat) (hl : l.length = n) (hn : n ≤ 1048576) (p : Dg.Pt) (i : Nat) (hex : Dg.existsP l p = true) (h1 : (p.parent.toList == p.id.toList) = false) (h2 : (p.after.toList == p.id.toList) = true) (w : World) (hI : Its w w.heap.size (some ⟨b, off, none⟩) l) :
  Calls Try.prog 29 #[.agg #[.slice (some ⟨b, off, none⟩) n c, .int .i64 p.1, .string p.2, .string p.3, .string p.4, .string p.5, .int .i64 p.6.1, .string p.6.2, .string p.6.3, .string p.6.4, .string p.6.5, .string p.6.6, .bool p.6.7, .int .i64 p.7, .string p.8, .string p.9, .int .i64 i]] w (ApR ([], 14) w) := by
 obtain ⟨r1, r2, hb, hs⟩ := iAlloc2 w (.cells #[.slice (some ⟨b, off, none⟩) n c, .int .i64 p.1, .string p.2, .string p.3, .string p.4, .string p.5, .int .i64 p.6.1, .string p.6.2, .string p.6.3, .string p.6.4, .string p.6.5, .string p.6.6, .bool p.6.7, .int .i64 p.7, .string p.8, .string p.9, .int .i64 i] 68) (.cells #[.slice none 0 0] 24)
 have HI := hide (hI.keep hb); have HL := hide hl; have HX := hide hex
 have hRG := hide (range_of r1 1 [.int .i64 p.1, .string p.2, .string p.3, .string p.4, .string p.5, .int .i64 p.6.1, .string p.6.2, .string p.6.3, .string p.6.4, .string p.6.5, .string p.6.6, .bool p.6.7, .int .i64 p.7, .string p.8, .string p.9] rfl)
 clear hI hl hex
 go_enter Try.func29, Try.ntmps29
 go_upto_region 1 with (fail)
 have hsz : w.heap.size + 2 ≤ ((w.alloc (.cells #[.slice (some ⟨b, off, none⟩) n c, .int .i64 p.1, .string p.2, .string p.3, .string p.4, .string p.5, .int .i64 p.6.1, .string p.6.2, .string p.6.3, .string p.6.4, .string p.6.5, .string p.6.6, .bool p.6.7, .int .i64 p.7, .string p.8, .string p.9, .int .i64 i] 68)).alloc (.cells #[.slice none 0 0] 24)).heap.size := by omega
 clear hs
 generalize (w.alloc (.cells #[.slice (some ⟨b, off, none⟩) n c, .int .i64 p.1, .string p.2, .string p.3, .string p.4, .string p.5, .int .i64 p.6.1, .string p.6.2, .string p.6.3, .string p.6.4, .string p.6.5, .string p.6.6, .bool p.6.7, .int .i64 p.7, .string p.8, .string p.9, .int .i64 i] 68)).alloc (.cells #[.slice none 0 0] 24) = W1 at *
 have hst := store_new (ty := 39) (T := 39) W1 #[.int .i64 0, .string ⟨#[]⟩, .string ⟨#[]⟩, .string ⟨#[]⟩, .string ⟨#[]⟩, .int .i64 0, .string ⟨#[]⟩, .string ⟨#[]⟩, .string ⟨#[]⟩, .string ⟨#[]⟩, .string ⟨#[]⟩, .bool false, .int .i64 0, .string ⟨#[]⟩, .string ⟨#[]⟩] #[.int .i64 p.1, .string p.2, .string p.3, .string p.4, .string p.5, .int .i64 p.6.1, .string p.6.2, .string p.6.3, .string p.6.4, .string p.6.5, .string p.6.6, .bool p.6.7, .int .i64 p.7, .string p.8, .string p.9] (by kernel_rfl) rfl (all_oneCell_toArray (ptL.one p))
 go_upto_region 2 with (with_reducible refine wpList_load_mid rfl 39 (.tmp 7) rfl w.heap.size 1 rfl _ _ hRG.out Try.underlying39 rfl (by kernel_rfl) ?_)
 clear hst hRG
 have r4 := heap_alloc_new W1 (.cells #[.int .i64 p.1, .string p.2, .string p.3, .string p.4, .string p.5, .int .i64 p.6.1, .string p.6.2, .string p.6.3, .string p.6.4, .string p.6.5, .string p.6.6, .bool p.6.7, .int .i64 p.7, .string p.8, .string p.9] 39)
 have hbn := Below.news (Below.refl W1.heap.size W1) (.cells #[.int .i64 p.1, .string p.2, .string p.3, .string p.4, .string p.5, .int .i64 p.6.1, .string p.6.2, .string p.6.3, .string p.6.4, .string p.6.5, .string p.6.6, .bool p.6.7, .int .i64 p.7, .string p.8, .string p.9] 39)
 have r12 := iNext r1 hbn
 have r22 := iNext r2 hbn
 have HI2 := hide (HI.out.keep hbn)
 have hb3 := bnext hb hbn
 obtain ⟨b4, hb4⟩ : ∃ b4, b4 = W1.heap.size := ⟨_, rfl⟩
 have HB4 := hide hb4
 rw [← hb4] at r4 hsz ⊢
 clear hbn hb r1 r2 HI hb4
 generalize W1.alloc (.cells #[.int .i64 p.1, .string p.2, .string p.3, .string p.4, .string p.5, .int .i64 p.6.1, .string p.6.2, .string p.6.3, .string p.6.4, .string p.6.5, .string p.6.6, .bool p.6.7, .int .i64 p.7, .string p.8, .string p.9] 39) = w2 at *
 clear HB4
 have hR17 := hide (range_of r12 0 [.slice (some ⟨b, off, none⟩) n c, .int .i64 p.1, .string p.2, .string p.3, .string p.4, .string p.5, .int .i64 p.6.1, .string p.6.2, .string p.6.3, .string p.6.4, .string p.6.5, .string p.6.6, .bool p.6.7, .int .i64 p.7, .string p.8, .string p.9, .int .i64 i] rfl)
 go_wp2_with (with_reducible refine wpList_load_mid rfl 68 (.tmp 1) rfl w.heap.size 0 rfl _ _ hR17.out Try.underlying68 rfl (by kernel_rfl) ?_)
 refine (exists_of l (some ⟨b, off, none⟩) n c HL.out hn p (i : Int) w2 HI2.out true HX.out).mono ?_
 rintro e w3 ⟨rfl, hbq⟩
 clear hR17
 have r13 := iNext r12 hbq
 have r23 := iNext r22 hbq
 have r43 := iNext r4 hbq
 have HI3 := hide (HI2.out.keep hbq)
 have hb5 := bnext hb3 hbq
 clear hbq hb3 r12 r22 r4 HI2
 have hcs := jC15 r43
 have k1 := hcs.2.1; have k2 := hcs.2.2.1; have k3 := hcs.2.2.2.1
 clear hcs
 have hst := store_part (ty := 24) w3 (w.heap.size + 1) 0 #[.slice none 0 0] (.agg #[.slice none 0 0]) #[.slice none 0 0] r23 infoCode1 (Nat.le_refl _) (one_code _ _ _) rfl
 have r25 := setRow_heap w3 (w.heap.size + 1) _ #[.slice none 0 0] _ _ r23
 have hb8 := below_setRow hb5 (by omega) (g := w.heap.size + 1) #[.slice none 0 0]
 go_wp2
 refine bodyPost_ret (results_c8 Try.results29 _ _ (w.heap.size + 1) 24 #[.slice none 0 0] (0, 0) _ rfl r25 Try.underlying24 (by kernel_rfl)) rfl (ApR.err rfl hb8)
set_option maxRecDepth 100000 in
set_option maxHeartbeats 8000000 in
attribute [-go_sem] Instr.storeAt in
theorem move_3 (l : List Dg.It) (b off : Nat) (n c : Nat) (hl : l.length = n) (hn : n ≤ 1048576) (p : Dg.Pt) (i : Nat) (hex : Dg.existsP l p = true) (h1 : (p.parent.toList == p.id.toList) = false) (h2 : (p.after.toList == p.id.toList) = false) (h3 : p.parent.toList.isEmpty = false) (hw : ∀ x ∈ l, ItW x) (hu : underC l p.parent p.id = true) (w : World) (hI : Its w w.heap.size (some ⟨b, off, none⟩) l) :
  Calls Try.prog 29 #[.agg #[.slice (some ⟨b, off, none⟩) n c, .int .i64 p.1, .string p.2, .string p.3, .string p.4, .string p.5, .int .i64 p.6.1, .string p.6.2, .string p.6.3, .string p.6.4, .string p.6.5, .string p.6.6, .bool p.6.7, .int .i64 p.7, .string p.8, .string p.9, .int .i64 i]] w (ApR ([], 14) w) := by
 obtain ⟨r1, r2, hb, hs⟩ := iAlloc2 w (.cells #[.slice (some ⟨b, off, none⟩) n c, .int .i64 p.1, .string p.2, .string p.3, .string p.4, .string p.5, .int .i64 p.6.1, .string p.6.2, .string p.6.3, .string p.6.4, .string p.6.5, .string p.6.6, .bool p.6.7, .int .i64 p.7, .string p.8, .string p.9, .int .i64 i] 68) (.cells #[.slice none 0 0] 24)
 have HI := hide (hI.keep hb); have HL := hide hl; have HX := hide hex
 have HW := hide hw; have HU := hide hu
 clear hw hu
 have hRG := hide (range_of r1 1 [.int .i64 p.1, .string p.2, .string p.3, .string p.4, .string p.5, .int .i64 p.6.1, .string p.6.2, .string p.6.3, .string p.6.4, .string p.6.5, .string p.6.6, .bool p.6.7, .int .i64 p.7, .string p.8, .string p.9] rfl)
 clear hI hl hex
 go_enter Try.func29, Try.ntmps29
 go_upto_region 1 with (fail)
 have hsz : w.heap.size + 2 ≤ ((w.alloc (.cells #[.slice (some ⟨b, off, none⟩) n c, .int .i64 p.1, .string p.2, .string p.3, .string p.4, .string p.5, .int .i64 p.6.1, .string p.6.2, .string p.6.3, .string p.6.4, .string p.6.5, .string p.6.6, .bool p.6.7, .int .i64 p.7, .string p.8, .string p.9, .int .i64 i] 68)).alloc (.cells #[.slice none 0 0] 24)).heap.size := by omega
 clear hs
 generalize (w.alloc (.cells #[.slice (some ⟨b, off, none⟩) n c, .int .i64 p.1, .string p.2, .string p.3, .string p.4, .string p.5, .int .i64 p.6.1, .string p.6.2, .string p.6.3, .string p.6.4, .string p.6.5, .string p.6.6, .bool p.6.7, .int .i64 p.7, .string p.8, .string p.9, .int .i64 i] 68)).alloc (.cells #[.slice none 0 0] 24) = W1 at *
 have hst := store_new (ty := 39) (T := 39) W1 #[.int .i64 0, .string ⟨#[]⟩, .string ⟨#[]⟩, .string ⟨#[]⟩, .string ⟨#[]⟩, .int .i64 0, .string ⟨#[]⟩, .string ⟨#[]⟩, .string ⟨#[]⟩, .string ⟨#[]⟩, .string ⟨#[]⟩, .bool false, .int .i64 0, .string ⟨#[]⟩, .string ⟨#[]⟩] #[.int .i64 p.1, .string p.2, .string p.3, .string p.4, .string p.5, .int .i64 p.6.1, .string p.6.2, .string p.6.3, .string p.6.4, .string p.6.5, .string p.6.6, .bool p.6.7, .int .i64 p.7, .string p.8, .string p.9] (by kernel_rfl) rfl (all_oneCell_toArray (ptL.one p))
 go_upto_region 2 with (with_reducible refine wpList_load_mid rfl 39 (.tmp 7) rfl w.heap.size 1 rfl _ _ hRG.out Try.underlying39 rfl (by kernel_rfl) ?_)
 clear hst hRG
 have r4 := heap_alloc_new W1 (.cells #[.int .i64 p.1, .string p.2, .string p.3, .string p.4, .string p.5, .int .i64 p.6.1, .string p.6.2, .string p.6.3, .string p.6.4, .string p.6.5, .string p.6.6, .bool p.6.7, .int .i64 p.7, .string p.8, .string p.9] 39)
 have hbn := Below.news (Below.refl W1.heap.size W1) (.cells #[.int .i64 p.1, .string p.2, .string p.3, .string p.4, .string p.5, .int .i64 p.6.1, .string p.6.2, .string p.6.3, .string p.6.4, .string p.6.5, .string p.6.6, .bool p.6.7, .int .i64 p.7, .string p.8, .string p.9] 39)
 have r12 := iNext r1 hbn
 have r22 := iNext r2 hbn
 have HI2 := hide (HI.out.keep hbn)
 have hb3 := bnext hb hbn
 obtain ⟨b4, hb4⟩ : ∃ b4, b4 = W1.heap.size := ⟨_, rfl⟩
 have HB4 := hide hb4
 rw [← hb4] at r4 hsz ⊢
 clear hbn hb r1 r2 HI hb4
 generalize W1.alloc (.cells #[.int .i64 p.1, .string p.2, .string p.3, .string p.4, .string p.5, .int .i64 p.6.1, .string p.6.2, .string p.6.3, .string p.6.4, .string p.6.5, .string p.6.6, .bool p.6.7, .int .i64 p.7, .string p.8, .string p.9] 39) = w2 at *
 clear HB4
 have hR17 := hide (range_of r12 0 [.slice (some ⟨b, off, none⟩) n c, .int .i64 p.1, .string p.2, .string p.3, .string p.4, .string p.5, .int .i64 p.6.1, .string p.6.2, .string p.6.3, .string p.6.4, .string p.6.5, .string p.6.6, .bool p.6.7, .int .i64 p.7, .string p.8, .string p.9, .int .i64 i] rfl)
 go_wp2_with (with_reducible refine wpList_load_mid rfl 68 (.tmp 1) rfl w.heap.size 0 rfl _ _ hR17.out Try.underlying68 rfl (by kernel_rfl) ?_)
 refine (exists_of l (some ⟨b, off, none⟩) n c HL.out hn p (i : Int) w2 HI2.out true HX.out).mono ?_
 rintro e w3 ⟨rfl, hbq⟩
 clear hR17
 have r13 := iNext r12 hbq
 have r23 := iNext r22 hbq
 have r43 := iNext r4 hbq
 have HI3 := hide (HI2.out.keep hbq)
 have hb5 := bnext hb3 hbq
 clear hbq hb3 r12 r22 r4 HI2
 have hcs := jC15 r43
 have k1 := hcs.2.1; have k2 := hcs.2.2.1; have k3 := hcs.2.2.2.1
 clear hcs
 have c0 := (jC17 r13).1
 go_wp2_with fail
 clear c0 k1 k2 k3
 refine (Code.under_of l (some ⟨b, off, none⟩) n c HL.out HW.out hn p.parent p.id w3 HI3.out true HU.out).mono ?_
 rintro e w4 ⟨rfl, hbq⟩
 have r14 := iNext r13 hbq
 have r24 := iNext r23 hbq
 have r44 := iNext r43 hbq
 have HI4 := hide (HI3.out.keep hbq)
 have hb6 := bnext hb5 hbq
 clear hbq hb5 r13 r23 r43 HI3
 have hst := store_part (ty := 24) w4 (w.heap.size + 1) 0 #[.slice none 0 0] (.agg #[.slice none 0 0]) #[.slice none 0 0] r24 infoCode1 (Nat.le_refl _) (one_code _ _ _) rfl
 have r25 := setRow_heap w4 (w.heap.size + 1) _ #[.slice none 0 0] _ _ r24
 have hb8 := below_setRow hb6 (by omega) (g := w.heap.size + 1) #[.slice none 0 0]
 go_wp2
 refine bodyPost_ret (results_c8 Try.results29 _ _ (w.heap.size + 1) 24 #[.slice none 0 0] (0, 0) _ rfl r25 Try.underlying24 (by kernel_rfl)) rfl (ApR.err rfl hb8)
set_option maxRecDepth 100000 in
set_option maxHeartbeats 8000000 in
attribute [-go_sem] Instr.storeAt in
theorem move_n (l : List Dg.It) (b off : Nat) (n c : Nat) (hl : l.length = n) (hn : n ≤ 1048576) (p : Dg.Pt) (i : Nat) (hi : i < n) (hnc : n ≤ c) (hv : Dg.validC l = true) (y : Dg.It) (hy : l[i]? = some y) (K : Nat) (hK : Dg.belowN l p.id = K) (hle : i + (1 + K) ≤ n) (hex : Dg.existsP l p = true) (hcv : Dg.validC (Dg.cutC l i K) = true) (hce : Dg.existsP (Dg.cutC l i K) p = true) (h1 : (p.parent.toList == p.id.toList) = false) (h2 : (p.after.toList == p.id.toList) = false) (h3 : p.parent.toList.isEmpty = true) (hw : ∀ x ∈ l, ItW x) (w : World) (hI : Its w w.heap.size (some ⟨b, off, none⟩) l) :
  Calls Try.prog 29 #[.agg #[.slice (some ⟨b, off, none⟩) n c, .int .i64 p.1, .string p.2, .string p.3, .string p.4, .string p.5, .int .i64 p.6.1, .string p.6.2, .string p.6.3, .string p.6.4, .string p.6.5, .string p.6.6, .bool p.6.7, .int .i64 p.7, .string p.8, .string p.9, .int .i64 i]] w (ApR (Dg.putP (Dg.cutC l i K) p ({ y with parent := p.parent } :: (l.drop (i + 1)).take K), 0) w) := by
 obtain ⟨r1, r2, hb, hs⟩ := iAlloc2 w (.cells #[.slice (some ⟨b, off, none⟩) n c, .int .i64 p.1, .string p.2, .string p.3, .string p.4, .string p.5, .int .i64 p.6.1, .string p.6.2, .string p.6.3, .string p.6.4, .string p.6.5, .string p.6.6, .bool p.6.7, .int .i64 p.7, .string p.8, .string p.9, .int .i64 i] 68) (.cells #[.slice none 0 0] 24)
 have HI := hide (hI.keep hb); have HL := hide hl; have HX := hide hex
 have hmx : Try.prog.follows .mixedOrders = true := by kernel_rfl
 have HV := hide hv; have HY := hide hy; have HK := hide hK; have HCV := hide hcv; have HCE := hide hce; have HLE := hide hle
 clear hv hy hK hcv hce hle
 have HW := hide hw
 clear hw
 have hRG := hide (range_of r1 1 [.int .i64 p.1, .string p.2, .string p.3, .string p.4, .string p.5, .int .i64 p.6.1, .string p.6.2, .string p.6.3, .string p.6.4, .string p.6.5, .string p.6.6, .bool p.6.7, .int .i64 p.7, .string p.8, .string p.9] rfl)
 clear hI hl hex
 go_enter Try.func29, Try.ntmps29
 go_upto_region 1 with (fail)
 have hsz : w.heap.size + 2 ≤ ((w.alloc (.cells #[.slice (some ⟨b, off, none⟩) n c, .int .i64 p.1, .string p.2, .string p.3, .string p.4, .string p.5, .int .i64 p.6.1, .string p.6.2, .string p.6.3, .string p.6.4, .string p.6.5, .string p.6.6, .bool p.6.7, .int .i64 p.7, .string p.8, .string p.9, .int .i64 i] 68)).alloc (.cells #[.slice none 0 0] 24)).heap.size := by omega
 clear hs
 generalize (w.alloc (.cells #[.slice (some ⟨b, off, none⟩) n c, .int .i64 p.1, .string p.2, .string p.3, .string p.4, .string p.5, .int .i64 p.6.1, .string p.6.2, .string p.6.3, .string p.6.4, .string p.6.5, .string p.6.6, .bool p.6.7, .int .i64 p.7, .string p.8, .string p.9, .int .i64 i] 68)).alloc (.cells #[.slice none 0 0] 24) = W1 at *
 have hst := store_new (ty := 39) (T := 39) W1 #[.int .i64 0, .string ⟨#[]⟩, .string ⟨#[]⟩, .string ⟨#[]⟩, .string ⟨#[]⟩, .int .i64 0, .string ⟨#[]⟩, .string ⟨#[]⟩, .string ⟨#[]⟩, .string ⟨#[]⟩, .string ⟨#[]⟩, .bool false, .int .i64 0, .string ⟨#[]⟩, .string ⟨#[]⟩] #[.int .i64 p.1, .string p.2, .string p.3, .string p.4, .string p.5, .int .i64 p.6.1, .string p.6.2, .string p.6.3, .string p.6.4, .string p.6.5, .string p.6.6, .bool p.6.7, .int .i64 p.7, .string p.8, .string p.9] (by kernel_rfl) rfl (all_oneCell_toArray (ptL.one p))
 go_upto_region 2 with (with_reducible refine wpList_load_mid rfl 39 (.tmp 7) rfl w.heap.size 1 rfl _ _ hRG.out Try.underlying39 rfl (by kernel_rfl) ?_)
 clear hst hRG
 have r4 := heap_alloc_new W1 (.cells #[.int .i64 p.1, .string p.2, .string p.3, .string p.4, .string p.5, .int .i64 p.6.1, .string p.6.2, .string p.6.3, .string p.6.4, .string p.6.5, .string p.6.6, .bool p.6.7, .int .i64 p.7, .string p.8, .string p.9] 39)
 have hbn := Below.news (Below.refl W1.heap.size W1) (.cells #[.int .i64 p.1, .string p.2, .string p.3, .string p.4, .string p.5, .int .i64 p.6.1, .string p.6.2, .string p.6.3, .string p.6.4, .string p.6.5, .string p.6.6, .bool p.6.7, .int .i64 p.7, .string p.8, .string p.9] 39)
 have r12 := iNext r1 hbn
 have r22 := iNext r2 hbn
 have HI2 := hide (HI.out.keep hbn)
 have hb3 := bnext hb hbn
 obtain ⟨b4, hb4⟩ : ∃ b4, b4 = W1.heap.size := ⟨_, rfl⟩
 have HB4 := hide hb4
 rw [← hb4] at r4 hsz ⊢
 clear hbn hb r1 r2 HI hb4
 generalize W1.alloc (.cells #[.int .i64 p.1, .string p.2, .string p.3, .string p.4, .string p.5, .int .i64 p.6.1, .string p.6.2, .string p.6.3, .string p.6.4, .string p.6.5, .string p.6.6, .bool p.6.7, .int .i64 p.7, .string p.8, .string p.9] 39) = w2 at *
 clear HB4
 have hR17 := hide (range_of r12 0 [.slice (some ⟨b, off, none⟩) n c, .int .i64 p.1, .string p.2, .string p.3, .string p.4, .string p.5, .int .i64 p.6.1, .string p.6.2, .string p.6.3, .string p.6.4, .string p.6.5, .string p.6.6, .bool p.6.7, .int .i64 p.7, .string p.8, .string p.9, .int .i64 i] rfl)
 go_wp2_with (with_reducible refine wpList_load_mid rfl 68 (.tmp 1) rfl w.heap.size 0 rfl _ _ hR17.out Try.underlying68 rfl (by kernel_rfl) ?_)
 refine (exists_of l (some ⟨b, off, none⟩) n c HL.out hn p (i : Int) w2 HI2.out true HX.out).mono ?_
 rintro e w3 ⟨rfl, hbq⟩
 clear hR17
 have r13 := iNext r12 hbq
 have r23 := iNext r22 hbq
 have r43 := iNext r4 hbq
 have HI3 := hide (HI2.out.keep hbq)
 have hb5 := bnext hb3 hbq
 clear hbq hb3 r12 r22 r4 HI2
 have hcs := jC15 r43
 have k1 := hcs.2.1; have k2 := hcs.2.2.1; have k3 := hcs.2.2.2.1
 clear hcs
 have r14 := r13
 have r24 := r23
 have r44 := r43
 have HI4 := HI3
 have hb6 := hb5
 go_upto_region 4 with (fail)
 clear hb5 r13 r23 r43 HI3 k1 k2 k3
 generalize w3 = w4 at *
 have hR17 := hide (range_of r14 0 [.slice (some ⟨b, off, none⟩) n c, .int .i64 p.1, .string p.2, .string p.3, .string p.4, .string p.5, .int .i64 p.6.1, .string p.6.2, .string p.6.3, .string p.6.4, .string p.6.5, .string p.6.6, .bool p.6.7, .int .i64 p.7, .string p.8, .string p.9, .int .i64 i] rfl)
 have k1 := (jC15 r44).2.1
 go_wp2_with (with_reducible refine wpList_load_mid rfl 68 (.tmp 1) rfl w.heap.size 0 rfl _ _ hR17.out Try.underlying68 rfl (by kernel_rfl) ?_)
 refine (size_of l (some ⟨b, off, none⟩) n c HL.out hn p (i : Int) HW.out HV.out p.id w4 HI4.out K HK.out).mono ?_
 rintro e w5 ⟨rfl, hbq⟩
 clear hR17 k1
 have r15 := iNext r14 hbq
 have r25 := iNext r24 hbq
 have r45 := iNext r44 hbq
 have HI5 := hide (HI4.out.keep hbq)
 have hb7 := bnext hb6 hbq
 clear hbq hb6 r14 r24 r44 HI4
 obtain ⟨m, hm⟩ : ∃ m, m = 1 + K := ⟨_, rfl⟩
 rw [← hm]
 have hm0 : 0 < m := by omega
 have hmn : i + m ≤ n := by have := HLE.out; omega
 have HM := hide hm
 clear hm
 have hcs := jC17 r15
 have c0 := hcs.1; have c16 := hcs.2.2.2.2.2.2.2.2.2.2.2.2.2.2.2.2
 clear hcs
 have j0 : (0 : Int) ≤ (i : Int) := by omega
 have j1 : (i : Int) + (m : Int) ≤ (n : Int) := by omega
 have j2 : (i : Int) + (m : Int) ≤ (c : Int) := by omega
 have j3 : ¬ (c = i) := by omega
 have j4 : ((i : Int) + (m : Int)).toNat = i + m := by omega
 have j5 : i + m - i = m := by omega
 have j6 : i + m ≤ c := by omega
 have j7 : i ≤ i + m := by omega
 go_wp2_with fail
 clear c0 c16 j1 j2 j3 j4 j5 j6 j7
 have hlm : ((l.drop i).take m).length = m := by rw [List.length_take, List.length_drop, HL.out]; omega
 refine (cloneI_any (some ⟨b, off + i * 7, none⟩) m (c - i) ((l.drop i).take m) w5 hlm (by omega) (HI5.out.sub i m)).mono ?_
 rintro e w6 ⟨v1, rfl, hO, hbq⟩
 obtain ⟨hil, hyi⟩ := List.getElem?_eq_some_iff.1 HY.out
 have hsub : (l.drop i).take m = y :: (l.drop (i + 1)).take K := by rw [HM.out, sub_cons hil, hyi]
 rw [hsub] at hO hlm
 clear hsub hil hyi
 obtain ⟨R, hR⟩ : ∃ R, R = (l.drop (i + 1)).take K := ⟨_, rfl⟩
 rw [← hR] at hO hlm
 have HR := hide hR
 clear hR
 obtain ⟨g, cap, sp, hv1, hBg, hgl, hg, _, _, _⟩ := hO.form (by rw [hlm]; exact hm0)
 rw [hlm] at hv1
 subst hv1
 have r16 := iNext r15 hbq
 have r26 := iNext r25 hbq
 have r46 := iNext r45 hbq
 have HI6 := hide (HI5.out.keep hbq)
 have hb8 := bnext hb7 hbq
 have hl1 := lt_of_block r15
 have hl2 := lt_of_block r25
 have hl4 := lt_of_block r45
 have hflat : 7 ≤ (iLay.flat (y :: R) ++ sp).length := by
  rw [List.length_append, iLay.flat_len, List.length_cons]
  show 7 ≤ (R.length + 1) * 7 + _
  omega
 have hst := store_part (ty := 9) w6 g 2 (iLay.flat (y :: R) ++ sp).toArray (.string p.parent) (iLay.flat ({ y with parent := p.parent } :: R) ++ sp).toArray hg infoStr1 (by show 2 + 1 ≤ (iLay.flat (y :: R) ++ sp).length; omega) (one_str _) rfl
 have hg7 := setRow_heap w6 g _ (iLay.flat ({ y with parent := p.parent } :: R) ++ sp).toArray _ _ hg
 have r17 := (setRow_other w6 g (w.heap.size) (iLay.flat ({ y with parent := p.parent } :: R) ++ sp).toArray (by omega)).trans r16
 have r27 := (setRow_other w6 g (w.heap.size + 1) (iLay.flat ({ y with parent := p.parent } :: R) ++ sp).toArray (by omega)).trans r26
 have HI7 := hide (its_other (HI5.out.below hbq) hBg (iLay.flat ({ y with parent := p.parent } :: R) ++ sp).toArray)
 have hb9 := below_setRow hb8 (by omega) (g := g) (iLay.flat ({ y with parent := p.parent } :: R) ++ sp).toArray
 have hs5 : w5.heap.size ≤ w6.heap.size := hbq.size
 have HLM := hide (And.intro hlm hflat)
 have k2 := (jC15 r46).2.2.1
 clear hO hbq r15 r25 r45 r16 r26 r46 HI5 HI6 hb7 hb8 hg hl4 hlm hflat
 have j8 : (0 : Int) < (m : Int) := by omega
 go_upto_region 7 with (fail)
 clear hst k2 j8
 have HI8 := hide (HI7.out.more (B' := (w6.setRow g (iLay.flat ({ y with parent := p.parent } :: R) ++ sp).toArray).heap.size) (by simp [World.setRow]; omega))
 have hgl7 := lt_of_block hg7
 clear HI7
 generalize w6.setRow g (iLay.flat ({ y with parent := p.parent } :: R) ++ sp).toArray = w7 at *
 refine wp_region_noPanic ?_
 refine wp_region_L (fun X => X.heap[w.heap.size]? = some (.cells #[.slice (some ⟨b, off, none⟩) n c, .int .i64 p.1, .string p.2, .string p.3, .string p.4, .string p.5, .int .i64 p.6.1, .string p.6.2, .string p.6.3, .string p.6.4, .string p.6.5, .string p.6.6, .bool p.6.7, .int .i64 p.7, .string p.8, .string p.9, .int .i64 i] 68 (0, 0))) 13 hmx ?_
 have hdr := (Below.refl w7.heap.size w7).drew
 have hS1 : (fun X : World => X.heap[w.heap.size]? = some (.cells #[.slice (some ⟨b, off, none⟩) n c, .int .i64 p.1, .string p.2, .string p.3, .string p.4, .string p.5, .int .i64 p.6.1, .string p.6.2, .string p.6.3, .string p.6.4, .string p.6.5, .string p.6.6, .bool p.6.7, .int .i64 p.7, .string p.8, .string p.9, .int .i64 i] 68 (0, 0))) w7.drew := iNext r17 hdr
 have r28 := iNext r27 hdr
 have hg8 := iNext hg7 hdr
 have HI9 := hide (HI8.out.keep hdr)
 have hb10 := bnext hb9 hdr
 have hl7 := Nat.lt_of_lt_of_le hgl7 hdr.size
 clear hdr r17 r27 HI8 hb9 hgl7 hg7
 generalize w7.drew = w8 at *
 have hwr : IntKind.i64.wrap ((i : Int) + (m : Int)) = (i : Int) + (m : Int) := by rw [IntKind.wrap_i64]; omega
 refine tkY 0 16 ?_ rfl ?_ hS1 ?_
 rotate_left
 ·intro wS hS; go_simp; (try with_reducible rfl)
 simp only [Act.put, pu1, pu2, pu3, pu4, pu5, pu6]
 refine tkY 1 16 ?_ rfl ?_ hS1 ?_
 rotate_left
 ·intro wS hS; go_simp; (try with_reducible rfl)
 simp only [Act.put, pu1, pu2, pu3, pu4, pu5, pu6]
 refine tkY 2 16 ?_ rfl ?_ hS1 ?_
 rotate_left
 ·intro wS hS; have hcs := jC17 hS; have c0 := hcs.1; have c16 := hcs.2.2.2.2.2.2.2.2.2.2.2.2.2.2.2.2; clear hcs; go_simp; (try with_reducible rfl)
 simp only [Act.put, pu1, pu2, pu3, pu4, pu5, pu6]
 refine tkY 4 16 ?_ rfl ?_ hS1 ?_
 rotate_left
 ·intro wS hS; go_simp; (try with_reducible rfl)
 simp only [Act.put, pu1, pu2, pu3, pu4, pu5, pu6]
 refine tkY 5 16 ?_ rfl ?_ hS1 ?_
 rotate_left
 ·intro wS hS; have hcs := jC17 hS; have c0 := hcs.1; have c16 := hcs.2.2.2.2.2.2.2.2.2.2.2.2.2.2.2.2; clear hcs; go_simp; (try with_reducible rfl)
 simp only [Act.put, pu1, pu2, pu3, pu4, pu5, pu6]
 refine tkY 6 16 ?_ rfl ?_ hS1 ?_
 rotate_left
 ·intro wS hS; go_simp; (try with_reducible rfl)
 simp only [Act.put, pu1, pu2, pu3, pu4, pu5, pu6]
 refine tkY 7 16 ?_ rfl ?_ hS1 ?_
 rotate_left
 ·intro wS hS; have hcs := jC17 hS; have c0 := hcs.1; have c16 := hcs.2.2.2.2.2.2.2.2.2.2.2.2.2.2.2.2; clear hcs; go_simp; (try with_reducible rfl)
 simp only [Act.put, pu1, pu2, pu3, pu4, pu5, pu6]
 refine tkY 8 16 ?_ rfl ?_ hS1 ?_
 rotate_left
 ·intro wS hS; go_simp; (try with_reducible rfl)
 simp only [Act.put, pu1, pu2, pu3, pu4, pu5, pu6]
 refine tkY 9 16 ?_ rfl ?_ hS1 ?_
 rotate_left
 ·intro wS hS; go_simp; (try with_reducible rfl)
 simp only [Act.put, pu1, pu2, pu3, pu4, pu5, pu6]
 refine wpAnyL_one (i := 3) (by decide +kernel) (by rfl) (fun K9 hK9 => ?_)
 rw [if_pos (by rfl)]
 go_simp
 refine (cloneI_any (some ⟨b, off, none⟩) n c l w8 HL.out (by omega) HI9.out).mono ?_
 rintro e w9 ⟨v2, rfl, hO2, hbq⟩
 obtain ⟨A1, c1, hv2, _, _⟩ := hO2.row
 have hvh := HL.out
 rw [hvh] at hv2
 clear hvh
 subst hv2
 have hS2 : (fun X : World => X.heap[w.heap.size]? = some (.cells #[.slice (some ⟨b, off, none⟩) n c, .int .i64 p.1, .string p.2, .string p.3, .string p.4, .string p.5, .int .i64 p.6.1, .string p.6.2, .string p.6.3, .string p.6.4, .string p.6.5, .string p.6.6, .bool p.6.7, .int .i64 p.7, .string p.8, .string p.9, .int .i64 i] 68 (0, 0))) w9 := iNext hS1 hbq
 have r29 := iNext r28 hbq
 have hg9 := iNext hg8 hbq
 have hb11 := bnext hb10 hbq
 have hs8 := hbq.size
 refine hK9.out _ _ (Or.inr hS2) ?_
 have hl81 := lt_of_block hS1
 have hl82 := lt_of_block r28
 clear hK9 K9 hS1 r28 hg8 hb10 hbq HI9
 try simp only [Act.put, pu1, pu2, pu3, pu4, pu5, pu6]
 refine wpAnyL_one (i := 10) (by decide +kernel) (by rfl) (fun K9 hK9 => ?_)
 rw [if_pos (by rfl)]
 go_simp
 have hdel := deleteI_any (.slice A1 n c1) l i (i + m) w8.heap.size w9 hO2 (by omega) (by rw [HL.out]; exact hmn) (by rw [HL.out]; omega)
 rw [Int.natCast_add] at hdel
 refine hdel.mono ?_
 rintro e w10 ⟨v3, rfl, hO3, hbq⟩
 clear hdel
 obtain ⟨A3, c3, hv3, _, _⟩ := hO3.row
 have hcut : l.take i ++ l.drop (i + m) = Dg.cutC l i K := by unfold Dg.cutC; rw [HM.out, show i + (1 + K) = i + 1 + K by omega]
 rw [hcut] at hO3 hv3
 clear hcut
 obtain ⟨n3, hn3⟩ : ∃ n3, (Dg.cutC l i K).length = n3 := ⟨_, rfl⟩
 have hn3' : n3 + m = n := by
  rw [← hn3]
  unfold Dg.cutC
  rw [List.length_append, List.length_take, List.length_drop, HL.out, HM.out]
  have := HM.out
  omega
 rw [hn3] at hv3
 subst hv3
 have HN3 := hide (And.intro hn3 hn3')
 clear hn3 hn3'
 have hS3 : (fun X : World => X.heap[w.heap.size]? = some (.cells #[.slice (some ⟨b, off, none⟩) n c, .int .i64 p.1, .string p.2, .string p.3, .string p.4, .string p.5, .int .i64 p.6.1, .string p.6.2, .string p.6.3, .string p.6.4, .string p.6.5, .string p.6.6, .bool p.6.7, .int .i64 p.7, .string p.8, .string p.9, .int .i64 i] 68 (0, 0))) w10 := (hbq.block _ hl81).trans hS2
 have r210 := (hbq.block _ hl82).trans r29
 have hg10 := (hbq.block _ hl7).trans hg9
 have hb12 : Below w.heap.size w w10 := hb11.trans (hbq.mono (by omega))
 refine hK9.out _ _ (Or.inr hS3) ?_
 clear hK9 K9 hS2 r29 hg9 hb11 hbq hO2
 try simp only [Act.put, pu1, pu2, pu3, pu4, pu5, pu6]
 refine wpAnyL_one (i := 11) (by decide +kernel) (by rfl) (fun K9 hK9 => ?_)
 rw [if_pos (by rfl)]
 go_simp
 refine hK9.out _ _ (Or.inr hS3) ?_
 clear hK9 K9
 try simp only [Act.put, pu1, pu2, pu3, pu4, pu5, pu6]
 refine wpAnyL_one (i := 12) (by decide +kernel) (by rfl) (fun K9 hK9 => ?_)
 rw [if_pos (by rfl)]
 go_simp
 refine hK9.out _ _ (Or.inr hS3) ?_
 clear hK9 K9
 try simp only [Act.put, pu1, pu2, pu3, pu4, pu5, pu6]
 refine wpAnyL_one (i := 13) (by decide +kernel) (by rfl) (fun K9 hK9 => ?_)
 rw [if_pos (by rfl)]
 have hst := store_part (ty := 24) w10 w.heap.size 0 #[.slice (some ⟨b, off, none⟩) n c, .int .i64 p.1, .string p.2, .string p.3, .string p.4, .string p.5, .int .i64 p.6.1, .string p.6.2, .string p.6.3, .string p.6.4, .string p.6.5, .string p.6.6, .bool p.6.7, .int .i64 p.7, .string p.8, .string p.9, .int .i64 i] (.agg #[.slice A3 n3 c3]) #[.slice A3 n3 c3, .int .i64 p.1, .string p.2, .string p.3, .string p.4, .string p.5, .int .i64 p.6.1, .string p.6.2, .string p.6.3, .string p.6.4, .string p.6.5, .string p.6.6, .bool p.6.7, .int .i64 p.7, .string p.8, .string p.9, .int .i64 i] hS3 infoCode1 (by show 1 ≤ 17; decide) (one_code _ _ _) rfl
 have r111 := setRow_heap w10 w.heap.size _ #[.slice A3 n3 c3, .int .i64 p.1, .string p.2, .string p.3, .string p.4, .string p.5, .int .i64 p.6.1, .string p.6.2, .string p.6.3, .string p.6.4, .string p.6.5, .string p.6.6, .bool p.6.7, .int .i64 p.7, .string p.8, .string p.9, .int .i64 i] _ _ hS3
 have r211 := (setRow_other w10 w.heap.size (w.heap.size + 1) #[.slice A3 n3 c3, .int .i64 p.1, .string p.2, .string p.3, .string p.4, .string p.5, .int .i64 p.6.1, .string p.6.2, .string p.6.3, .string p.6.4, .string p.6.5, .string p.6.6, .bool p.6.7, .int .i64 p.7, .string p.8, .string p.9, .int .i64 i] (by omega)).trans r210
 have hg11 := (setRow_other w10 w.heap.size g #[.slice A3 n3 c3, .int .i64 p.1, .string p.2, .string p.3, .string p.4, .string p.5, .int .i64 p.6.1, .string p.6.2, .string p.6.3, .string p.6.4, .string p.6.5, .string p.6.6, .bool p.6.7, .int .i64 p.7, .string p.8, .string p.9, .int .i64 i] (by omega)).trans hg10
 have hb13 := below_setRow hb12 (Nat.le_refl _) (g := w.heap.size) #[.slice A3 n3 c3, .int .i64 p.1, .string p.2, .string p.3, .string p.4, .string p.5, .int .i64 p.6.1, .string p.6.2, .string p.6.3, .string p.6.4, .string p.6.5, .string p.6.6, .bool p.6.7, .int .i64 p.7, .string p.8, .string p.9, .int .i64 i]
 have hO4 := own_other hO3 (g := w.heap.size) (fun e => by have := (World.ownsRow.lt hO3 _ e).1; omega) #[.slice A3 n3 c3, .int .i64 p.1, .string p.2, .string p.3, .string p.4, .string p.5, .int .i64 p.6.1, .string p.6.2, .string p.6.3, .string p.6.4, .string p.6.5, .string p.6.6, .bool p.6.7, .int .i64 p.7, .string p.8, .string p.9, .int .i64 i]
 go_simp
 clear hst hS3 r210 hg10 hb12 hO3
 refine hK9.out _ _ (Or.inl (by rfl)) ?_
 clear hK9 K9
 generalize w10.setRow w.heap.size #[.slice A3 n3 c3, .int .i64 p.1, .string p.2, .string p.3, .string p.4, .string p.5, .int .i64 p.6.1, .string p.6.2, .string p.6.3, .string p.6.4, .string p.6.5, .string p.6.6, .bool p.6.7, .int .i64 p.7, .string p.8, .string p.9, .int .i64 i] = w11 at *
 try simp only [Act.put, pu1, pu2, pu3, pu4, pu5, pu6]
 refine dnY ?_
 obtain ⟨A9, c9, e9, hI9, _⟩ := hO4.row
 rw [HN3.out.1] at e9
 injection e9 with e9 _ e9c
 subst e9 e9c
 have hI11 := hide hI9.its
 clear hI9
 have hR17 := hide (range_of r111 0 [.slice A3 n3 c3, .int .i64 p.1, .string p.2, .string p.3, .string p.4, .string p.5, .int .i64 p.6.1, .string p.6.2, .string p.6.3, .string p.6.4, .string p.6.5, .string p.6.6, .bool p.6.7, .int .i64 p.7, .string p.8, .string p.9, .int .i64 i] rfl)
 go_wp2_with (with_reducible refine wpList_load_mid rfl 68 (.tmp 1) rfl w.heap.size 0 rfl _ _ hR17.out Try.underlying68 rfl (by kernel_rfl) ?_)
 refine (put_of (Dg.cutC l i K) A3 n3 c3 HN3.out.1 (by have := HN3.out.2; omega) p (i : Int) (fun x hx => HW.out x (by
  unfold Dg.cutC at hx
  rcases List.mem_append.1 hx with h | h
  ·exact List.mem_of_mem_take h
  ·exact List.mem_of_mem_drop h)) HCV.out ({ y with parent := p.parent } :: R) m g cap sp HLM.out.1 hm0 (by have := HN3.out.2; omega) HCE.out w11 hI11.out hg11).mono ?_
 rintro e w12 ⟨v4, rfl, hO5, hb14⟩
 clear hR17
 obtain ⟨A5, c5, hv5, _, _⟩ := hO5.row
 obtain ⟨m', hm'⟩ : ∃ m', (Dg.putP (Dg.cutC l i K) p ({ y with parent := p.parent } :: R)).length = m' := ⟨_, rfl⟩
 rw [hm'] at hv5
 clear hm'
 subst hv5
 have hl11 := lt_of_block r211
 have r212 := iNext r211 hb14
 have hb15 := bnext hb13 hb14
 have hst := store_part (ty := 24) w12 (w.heap.size + 1) 0 #[.slice none 0 0] (.agg #[.slice A5 m' c5]) #[.slice A5 m' c5] r212 infoCode1 (Nat.le_refl _) (one_code _ _ _) rfl
 have r25 := setRow_heap w12 (w.heap.size + 1) _ #[.slice A5 m' c5] _ _ r212
 have hb16 := below_setRow hb15 (by omega) (g := w.heap.size + 1) #[.slice A5 m' c5]
 have HO2 := hide (own_other hO5 (g := w.heap.size + 1) (fun e => by have := (World.ownsRow.lt hO5 _ e).1; omega) #[.slice A5 m' c5])
 clear hO5 hb14 hb15 r212 r211 hb13 hI11 hO4 hg11 r111
 go_wp2
 rw [HR.out] at HO2
 refine bodyPost_ret (results_c8 Try.results29 _ _ (w.heap.size + 1) 24 #[.slice A5 m' c5] (0, 0) _ rfl r25 Try.underlying24 (by kernel_rfl)) rfl (ApR.own rfl HO2.out (by omega) hb16)
set_option maxRecDepth 100000 in
set_option maxHeartbeats 8000000 in
attribute [-go_sem] Instr.storeAt in
theorem move_u (l : List Dg.It) (b off : Nat) (n c : Nat) (hl : l.length = n) (hn : n ≤ 1048576) (p : Dg.Pt) (i : Nat) (hi : i < n) (hnc : n ≤ c) (hv : Dg.validC l = true) (y : Dg.It) (hy : l[i]? = some y) (K : Nat) (hK : Dg.belowN l p.id = K) (hle : i + (1 + K) ≤ n) (hex : Dg.existsP l p = true) (hcv : Dg.validC (Dg.cutC l i K) = true) (hce : Dg.existsP (Dg.cutC l i K) p = true) (h1 : (p.parent.toList == p.id.toList) = false) (h2 : (p.after.toList == p.id.toList) = false) (h3 : p.parent.toList.isEmpty = false) (hw : ∀ x ∈ l, ItW x) (hu : underC l p.parent p.id = false) (w : World) (hI : Its w w.heap.size (some ⟨b, off, none⟩) l) :
  Calls Try.prog 29 #[.agg #[.slice (some ⟨b, off, none⟩) n c, .int .i64 p.1, .string p.2, .string p.3, .string p.4, .string p.5, .int .i64 p.6.1, .string p.6.2, .string p.6.3, .string p.6.4, .string p.6.5, .string p.6.6, .bool p.6.7, .int .i64 p.7, .string p.8, .string p.9, .int .i64 i]] w (ApR (Dg.putP (Dg.cutC l i K) p ({ y with parent := p.parent } :: (l.drop (i + 1)).take K), 0) w) := by
 obtain ⟨r1, r2, hb, hs⟩ := iAlloc2 w (.cells #[.slice (some ⟨b, off, none⟩) n c, .int .i64 p.1, .string p.2, .string p.3, .string p.4, .string p.5, .int .i64 p.6.1, .string p.6.2, .string p.6.3, .string p.6.4, .string p.6.5, .string p.6.6, .bool p.6.7, .int .i64 p.7, .string p.8, .string p.9, .int .i64 i] 68) (.cells #[.slice none 0 0] 24)
 have HI := hide (hI.keep hb); have HL := hide hl; have HX := hide hex
 have hmx : Try.prog.follows .mixedOrders = true := by kernel_rfl
 have HV := hide hv; have HY := hide hy; have HK := hide hK; have HCV := hide hcv; have HCE := hide hce; have HLE := hide hle
 clear hv hy hK hcv hce hle
 have HW := hide hw; have HU := hide hu
 clear hw hu
 have hRG := hide (range_of r1 1 [.int .i64 p.1, .string p.2, .string p.3, .string p.4, .string p.5, .int .i64 p.6.1, .string p.6.2, .string p.6.3, .string p.6.4, .string p.6.5, .string p.6.6, .bool p.6.7, .int .i64 p.7, .string p.8, .string p.9] rfl)
 clear hI hl hex
 go_enter Try.func29, Try.ntmps29
 go_upto_region 1 with (fail)
 have hsz : w.heap.size + 2 ≤ ((w.alloc (.cells #[.slice (some ⟨b, off, none⟩) n c, .int .i64 p.1, .string p.2, .string p.3, .string p.4, .string p.5, .int .i64 p.6.1, .string p.6.2, .string p.6.3, .string p.6.4, .string p.6.5, .string p.6.6, .bool p.6.7, .int .i64 p.7, .string p.8, .string p.9, .int .i64 i] 68)).alloc (.cells #[.slice none 0 0] 24)).heap.size := by omega
 clear hs
 generalize (w.alloc (.cells #[.slice (some ⟨b, off, none⟩) n c, .int .i64 p.1, .string p.2, .string p.3, .string p.4, .string p.5, .int .i64 p.6.1, .string p.6.2, .string p.6.3, .string p.6.4, .string p.6.5, .string p.6.6, .bool p.6.7, .int .i64 p.7, .string p.8, .string p.9, .int .i64 i] 68)).alloc (.cells #[.slice none 0 0] 24) = W1 at *
 have hst := store_new (ty := 39) (T := 39) W1 #[.int .i64 0, .string ⟨#[]⟩, .string ⟨#[]⟩, .string ⟨#[]⟩, .string ⟨#[]⟩, .int .i64 0, .string ⟨#[]⟩, .string ⟨#[]⟩, .string ⟨#[]⟩, .string ⟨#[]⟩, .string ⟨#[]⟩, .bool false, .int .i64 0, .string ⟨#[]⟩, .string ⟨#[]⟩] #[.int .i64 p.1, .string p.2, .string p.3, .string p.4, .string p.5, .int .i64 p.6.1, .string p.6.2, .string p.6.3, .string p.6.4, .string p.6.5, .string p.6.6, .bool p.6.7, .int .i64 p.7, .string p.8, .string p.9] (by kernel_rfl) rfl (all_oneCell_toArray (ptL.one p))
 go_upto_region 2 with (with_reducible refine wpList_load_mid rfl 39 (.tmp 7) rfl w.heap.size 1 rfl _ _ hRG.out Try.underlying39 rfl (by kernel_rfl) ?_)
 clear hst hRG
 have r4 := heap_alloc_new W1 (.cells #[.int .i64 p.1, .string p.2, .string p.3, .string p.4, .string p.5, .int .i64 p.6.1, .string p.6.2, .string p.6.3, .string p.6.4, .string p.6.5, .string p.6.6, .bool p.6.7, .int .i64 p.7, .string p.8, .string p.9] 39)
 have hbn := Below.news (Below.refl W1.heap.size W1) (.cells #[.int .i64 p.1, .string p.2, .string p.3, .string p.4, .string p.5, .int .i64 p.6.1, .string p.6.2, .string p.6.3, .string p.6.4, .string p.6.5, .string p.6.6, .bool p.6.7, .int .i64 p.7, .string p.8, .string p.9] 39)
 have r12 := iNext r1 hbn
 have r22 := iNext r2 hbn
 have HI2 := hide (HI.out.keep hbn)
 have hb3 := bnext hb hbn
 obtain ⟨b4, hb4⟩ : ∃ b4, b4 = W1.heap.size := ⟨_, rfl⟩
 have HB4 := hide hb4
 rw [← hb4] at r4 hsz ⊢
 clear hbn hb r1 r2 HI hb4
 generalize W1.alloc (.cells #[.int .i64 p.1, .string p.2, .string p.3, .string p.4, .string p.5, .int .i64 p.6.1, .string p.6.2, .string p.6.3, .string p.6.4, .string p.6.5, .string p.6.6, .bool p.6.7, .int .i64 p.7, .string p.8, .string p.9] 39) = w2 at *
 clear HB4
 have hR17 := hide (range_of r12 0 [.slice (some ⟨b, off, none⟩) n c, .int .i64 p.1, .string p.2, .string p.3, .string p.4, .string p.5, .int .i64 p.6.1, .string p.6.2, .string p.6.3, .string p.6.4, .string p.6.5, .string p.6.6, .bool p.6.7, .int .i64 p.7, .string p.8, .string p.9, .int .i64 i] rfl)
 go_wp2_with (with_reducible refine wpList_load_mid rfl 68 (.tmp 1) rfl w.heap.size 0 rfl _ _ hR17.out Try.underlying68 rfl (by kernel_rfl) ?_)
 refine (exists_of l (some ⟨b, off, none⟩) n c HL.out hn p (i : Int) w2 HI2.out true HX.out).mono ?_
 rintro e w3 ⟨rfl, hbq⟩
 clear hR17
 have r13 := iNext r12 hbq
 have r23 := iNext r22 hbq
 have r43 := iNext r4 hbq
 have HI3 := hide (HI2.out.keep hbq)
 have hb5 := bnext hb3 hbq
 clear hbq hb3 r12 r22 r4 HI2
 have hcs := jC15 r43
 have k1 := hcs.2.1; have k2 := hcs.2.2.1; have k3 := hcs.2.2.2.1
 clear hcs
 have c0 := (jC17 r13).1
 go_wp2_with fail
 clear c0 k1 k2 k3
 refine (Code.under_of l (some ⟨b, off, none⟩) n c HL.out HW.out hn p.parent p.id w3 HI3.out false HU.out).mono ?_
 rintro e w4 ⟨rfl, hbq⟩
 have r14 := iNext r13 hbq
 have r24 := iNext r23 hbq
 have r44 := iNext r43 hbq
 have HI4 := hide (HI3.out.keep hbq)
 have hb6 := bnext hb5 hbq
 clear hbq hb5 r13 r23 r43 HI3
 go_upto_region 4 with (fail)
 have hR17 := hide (range_of r14 0 [.slice (some ⟨b, off, none⟩) n c, .int .i64 p.1, .string p.2, .string p.3, .string p.4, .string p.5, .int .i64 p.6.1, .string p.6.2, .string p.6.3, .string p.6.4, .string p.6.5, .string p.6.6, .bool p.6.7, .int .i64 p.7, .string p.8, .string p.9, .int .i64 i] rfl)
 have k1 := (jC15 r44).2.1
 go_wp2_with (with_reducible refine wpList_load_mid rfl 68 (.tmp 1) rfl w.heap.size 0 rfl _ _ hR17.out Try.underlying68 rfl (by kernel_rfl) ?_)
 refine (size_of l (some ⟨b, off, none⟩) n c HL.out hn p (i : Int) HW.out HV.out p.id w4 HI4.out K HK.out).mono ?_
 rintro e w5 ⟨rfl, hbq⟩
 clear hR17 k1
 have r15 := iNext r14 hbq
 have r25 := iNext r24 hbq
 have r45 := iNext r44 hbq
 have HI5 := hide (HI4.out.keep hbq)
 have hb7 := bnext hb6 hbq
 clear hbq hb6 r14 r24 r44 HI4
 obtain ⟨m, hm⟩ : ∃ m, m = 1 + K := ⟨_, rfl⟩
 rw [← hm]
 have hm0 : 0 < m := by omega
 have hmn : i + m ≤ n := by have := HLE.out; omega
 have HM := hide hm
 clear hm
 have hcs := jC17 r15
 have c0 := hcs.1; have c16 := hcs.2.2.2.2.2.2.2.2.2.2.2.2.2.2.2.2
 clear hcs
 have j0 : (0 : Int) ≤ (i : Int) := by omega
 have j1 : (i : Int) + (m : Int) ≤ (n : Int) := by omega
 have j2 : (i : Int) + (m : Int) ≤ (c : Int) := by omega
 have j3 : ¬ (c = i) := by omega
 have j4 : ((i : Int) + (m : Int)).toNat = i + m := by omega
 have j5 : i + m - i = m := by omega
 have j6 : i + m ≤ c := by omega
 have j7 : i ≤ i + m := by omega
 go_wp2_with fail
 clear c0 c16 j1 j2 j3 j4 j5 j6 j7
 have hlm : ((l.drop i).take m).length = m := by rw [List.length_take, List.length_drop, HL.out]; omega
 refine (cloneI_any (some ⟨b, off + i * 7, none⟩) m (c - i) ((l.drop i).take m) w5 hlm (by omega) (HI5.out.sub i m)).mono ?_
 rintro e w6 ⟨v1, rfl, hO, hbq⟩
 obtain ⟨hil, hyi⟩ := List.getElem?_eq_some_iff.1 HY.out
 have hsub : (l.drop i).take m = y :: (l.drop (i + 1)).take K := by rw [HM.out, sub_cons hil, hyi]
 rw [hsub] at hO hlm
 clear hsub hil hyi
 obtain ⟨R, hR⟩ : ∃ R, R = (l.drop (i + 1)).take K := ⟨_, rfl⟩
 rw [← hR] at hO hlm
 have HR := hide hR
 clear hR
 obtain ⟨g, cap, sp, hv1, hBg, hgl, hg, _, _, _⟩ := hO.form (by rw [hlm]; exact hm0)
 rw [hlm] at hv1
 subst hv1
 have r16 := iNext r15 hbq
 have r26 := iNext r25 hbq
 have r46 := iNext r45 hbq
 have HI6 := hide (HI5.out.keep hbq)
 have hb8 := bnext hb7 hbq
 have hl1 := lt_of_block r15
 have hl2 := lt_of_block r25
 have hl4 := lt_of_block r45
 have hflat : 7 ≤ (iLay.flat (y :: R) ++ sp).length := by
  rw [List.length_append, iLay.flat_len, List.length_cons]
  show 7 ≤ (R.length + 1) * 7 + _
  omega
 have hst := store_part (ty := 9) w6 g 2 (iLay.flat (y :: R) ++ sp).toArray (.string p.parent) (iLay.flat ({ y with parent := p.parent } :: R) ++ sp).toArray hg infoStr1 (by show 2 + 1 ≤ (iLay.flat (y :: R) ++ sp).length; omega) (one_str _) rfl
 have hg7 := setRow_heap w6 g _ (iLay.flat ({ y with parent := p.parent } :: R) ++ sp).toArray _ _ hg
 have r17 := (setRow_other w6 g (w.heap.size) (iLay.flat ({ y with parent := p.parent } :: R) ++ sp).toArray (by omega)).trans r16
 have r27 := (setRow_other w6 g (w.heap.size + 1) (iLay.flat ({ y with parent := p.parent } :: R) ++ sp).toArray (by omega)).trans r26
 have HI7 := hide (its_other (HI5.out.below hbq) hBg (iLay.flat ({ y with parent := p.parent } :: R) ++ sp).toArray)
 have hb9 := below_setRow hb8 (by omega) (g := g) (iLay.flat ({ y with parent := p.parent } :: R) ++ sp).toArray
 have hs5 : w5.heap.size ≤ w6.heap.size := hbq.size
 have HLM := hide (And.intro hlm hflat)
 have k2 := (jC15 r46).2.2.1
 clear hO hbq r15 r25 r45 r16 r26 r46 HI5 HI6 hb7 hb8 hg hl4 hlm hflat
 have j8 : (0 : Int) < (m : Int) := by omega
 go_upto_region 7 with (fail)
 clear hst k2 j8
 have HI8 := hide (HI7.out.more (B' := (w6.setRow g (iLay.flat ({ y with parent := p.parent } :: R) ++ sp).toArray).heap.size) (by simp [World.setRow]; omega))
 have hgl7 := lt_of_block hg7
 clear HI7
 generalize w6.setRow g (iLay.flat ({ y with parent := p.parent } :: R) ++ sp).toArray = w7 at *
 refine wp_region_noPanic ?_
 refine wp_region_L (fun X => X.heap[w.heap.size]? = some (.cells #[.slice (some ⟨b, off, none⟩) n c, .int .i64 p.1, .string p.2, .string p.3, .string p.4, .string p.5, .int .i64 p.6.1, .string p.6.2, .string p.6.3, .string p.6.4, .string p.6.5, .string p.6.6, .bool p.6.7, .int .i64 p.7, .string p.8, .string p.9, .int .i64 i] 68 (0, 0))) 13 hmx ?_
 have hdr := (Below.refl w7.heap.size w7).drew
 have hS1 : (fun X : World => X.heap[w.heap.size]? = some (.cells #[.slice (some ⟨b, off, none⟩) n c, .int .i64 p.1, .string p.2, .string p.3, .string p.4, .string p.5, .int .i64 p.6.1, .string p.6.2, .string p.6.3, .string p.6.4, .string p.6.5, .string p.6.6, .bool p.6.7, .int .i64 p.7, .string p.8, .string p.9, .int .i64 i] 68 (0, 0))) w7.drew := iNext r17 hdr
 have r28 := iNext r27 hdr
 have hg8 := iNext hg7 hdr
 have HI9 := hide (HI8.out.keep hdr)
 have hb10 := bnext hb9 hdr
 have hl7 := Nat.lt_of_lt_of_le hgl7 hdr.size
 clear hdr r17 r27 HI8 hb9 hgl7 hg7
 generalize w7.drew = w8 at *
 have hwr : IntKind.i64.wrap ((i : Int) + (m : Int)) = (i : Int) + (m : Int) := by rw [IntKind.wrap_i64]; omega
 refine tkY 0 16 ?_ rfl ?_ hS1 ?_
 rotate_left
 ·intro wS hS; go_simp; (try with_reducible rfl)
 simp only [Act.put, pu1, pu2, pu3, pu4, pu5, pu6]
 refine tkY 1 16 ?_ rfl ?_ hS1 ?_
 rotate_left
 ·intro wS hS; go_simp; (try with_reducible rfl)
 simp only [Act.put, pu1, pu2, pu3, pu4, pu5, pu6]
 refine tkY 2 16 ?_ rfl ?_ hS1 ?_
 rotate_left
 ·intro wS hS; have hcs := jC17 hS; have c0 := hcs.1; have c16 := hcs.2.2.2.2.2.2.2.2.2.2.2.2.2.2.2.2; clear hcs; go_simp; (try with_reducible rfl)
 simp only [Act.put, pu1, pu2, pu3, pu4, pu5, pu6]
 refine tkY 4 16 ?_ rfl ?_ hS1 ?_
 rotate_left
 ·intro wS hS; go_simp; (try with_reducible rfl)
 simp only [Act.put, pu1, pu2, pu3, pu4, pu5, pu6]
 refine tkY 5 16 ?_ rfl ?_ hS1 ?_
 rotate_left
 ·intro wS hS; have hcs := jC17 hS; have c0 := hcs.1; have c16 := hcs.2.2.2.2.2.2.2.2.2.2.2.2.2.2.2.2; clear hcs; go_simp; (try with_reducible rfl)
 simp only [Act.put, pu1, pu2, pu3, pu4, pu5, pu6]
 refine tkY 6 16 ?_ rfl ?_ hS1 ?_
 rotate_left
 ·intro wS hS; go_simp; (try with_reducible rfl)
 simp only [Act.put, pu1, pu2, pu3, pu4, pu5, pu6]
 refine tkY 7 16 ?_ rfl ?_ hS1 ?_
 rotate_left
 ·intro wS hS; have hcs := jC17 hS; have c0 := hcs.1; have c16 := hcs.2.2.2.2.2.2.2.2.2.2.2.2.2.2.2.2; clear hcs; go_simp; (try with_reducible rfl)
 simp only [Act.put, pu1, pu2, pu3, pu4, pu5, pu6]
 refine tkY 8 16 ?_ rfl ?_ hS1 ?_
 rotate_left
 ·intro wS hS; go_simp; (try with_reducible rfl)
 simp only [Act.put, pu1, pu2, pu3, pu4, pu5, pu6]
 refine tkY 9 16 ?_ rfl ?_ hS1 ?_
 rotate_left
 ·intro wS hS; go_simp; (try with_reducible rfl)
 simp only [Act.put, pu1, pu2, pu3, pu4, pu5, pu6]
 refine wpAnyL_one (i := 3) (by decide +kernel) (by rfl) (fun K9 hK9 => ?_)
 rw [if_pos (by rfl)]
 go_simp
 refine (cloneI_any (some ⟨b, off, none⟩) n c l w8 HL.out (by omega) HI9.out).mono ?_
 rintro e w9 ⟨v2, rfl, hO2, hbq⟩
 obtain ⟨A1, c1, hv2, _, _⟩ := hO2.row
 have hvh := HL.out
 rw [hvh] at hv2
 clear hvh
 subst hv2
 have hS2 : (fun X : World => X.heap[w.heap.size]? = some (.cells #[.slice (some ⟨b, off, none⟩) n c, .int .i64 p.1, .string p.2, .string p.3, .string p.4, .string p.5, .int .i64 p.6.1, .string p.6.2, .string p.6.3, .string p.6.4, .string p.6.5, .string p.6.6, .bool p.6.7, .int .i64 p.7, .string p.8, .string p.9, .int .i64 i] 68 (0, 0))) w9 := iNext hS1 hbq
 have r29 := iNext r28 hbq
 have hg9 := iNext hg8 hbq
 have hb11 := bnext hb10 hbq
 have hs8 := hbq.size
 refine hK9.out _ _ (Or.inr hS2) ?_
 have hl81 := lt_of_block hS1
 have hl82 := lt_of_block r28
 clear hK9 K9 hS1 r28 hg8 hb10 hbq HI9
 try simp only [Act.put, pu1, pu2, pu3, pu4, pu5, pu6]
 refine wpAnyL_one (i := 10) (by decide +kernel) (by rfl) (fun K9 hK9 => ?_)
 rw [if_pos (by rfl)]
 go_simp
 have hdel := deleteI_any (.slice A1 n c1) l i (i + m) w8.heap.size w9 hO2 (by omega) (by rw [HL.out]; exact hmn) (by rw [HL.out]; omega)
 rw [Int.natCast_add] at hdel
 refine hdel.mono ?_
 rintro e w10 ⟨v3, rfl, hO3, hbq⟩
 clear hdel
 obtain ⟨A3, c3, hv3, _, _⟩ := hO3.row
 have hcut : l.take i ++ l.drop (i + m) = Dg.cutC l i K := by unfold Dg.cutC; rw [HM.out, show i + (1 + K) = i + 1 + K by omega]
 rw [hcut] at hO3 hv3
 clear hcut
 obtain ⟨n3, hn3⟩ : ∃ n3, (Dg.cutC l i K).length = n3 := ⟨_, rfl⟩
 have hn3' : n3 + m = n := by
  rw [← hn3]
  unfold Dg.cutC
  rw [List.length_append, List.length_take, List.length_drop, HL.out, HM.out]
  have := HM.out
  omega
 rw [hn3] at hv3
 subst hv3
 have HN3 := hide (And.intro hn3 hn3')
 clear hn3 hn3'
 have hS3 : (fun X : World => X.heap[w.heap.size]? = some (.cells #[.slice (some ⟨b, off, none⟩) n c, .int .i64 p.1, .string p.2, .string p.3, .string p.4, .string p.5, .int .i64 p.6.1, .string p.6.2, .string p.6.3, .string p.6.4, .string p.6.5, .string p.6.6, .bool p.6.7, .int .i64 p.7, .string p.8, .string p.9, .int .i64 i] 68 (0, 0))) w10 := (hbq.block _ hl81).trans hS2
 have r210 := (hbq.block _ hl82).trans r29
 have hg10 := (hbq.block _ hl7).trans hg9
 have hb12 : Below w.heap.size w w10 := hb11.trans (hbq.mono (by omega))
 refine hK9.out _ _ (Or.inr hS3) ?_
 clear hK9 K9 hS2 r29 hg9 hb11 hbq hO2
 try simp only [Act.put, pu1, pu2, pu3, pu4, pu5, pu6]
 refine wpAnyL_one (i := 11) (by decide +kernel) (by rfl) (fun K9 hK9 => ?_)
 rw [if_pos (by rfl)]
 go_simp
 refine hK9.out _ _ (Or.inr hS3) ?_
 clear hK9 K9
 try simp only [Act.put, pu1, pu2, pu3, pu4, pu5, pu6]
 refine wpAnyL_one (i := 12) (by decide +kernel) (by rfl) (fun K9 hK9 => ?_)
 rw [if_pos (by rfl)]
 go_simp
 refine hK9.out _ _ (Or.inr hS3) ?_
 clear hK9 K9
 try simp only [Act.put, pu1, pu2, pu3, pu4, pu5, pu6]
 refine wpAnyL_one (i := 13) (by decide +kernel) (by rfl) (fun K9 hK9 => ?_)
 rw [if_pos (by rfl)]
 have hst := store_part (ty := 24) w10 w.heap.size 0 #[.slice (some ⟨b, off, none⟩) n c, .int .i64 p.1, .string p.2, .string p.3, .string p.4, .string p.5, .int .i64 p.6.1, .string p.6.2, .string p.6.3, .string p.6.4, .string p.6.5, .string p.6.6, .bool p.6.7, .int .i64 p.7, .string p.8, .string p.9, .int .i64 i] (.agg #[.slice A3 n3 c3]) #[.slice A3 n3 c3, .int .i64 p.1, .string p.2, .string p.3, .string p.4, .string p.5, .int .i64 p.6.1, .string p.6.2, .string p.6.3, .string p.6.4, .string p.6.5, .string p.6.6, .bool p.6.7, .int .i64 p.7, .string p.8, .string p.9, .int .i64 i] hS3 infoCode1 (by show 1 ≤ 17; decide) (one_code _ _ _) rfl
 have r111 := setRow_heap w10 w.heap.size _ #[.slice A3 n3 c3, .int .i64 p.1, .string p.2, .string p.3, .string p.4, .string p.5, .int .i64 p.6.1, .string p.6.2, .string p.6.3, .string p.6.4, .string p.6.5, .string p.6.6, .bool p.6.7, .int .i64 p.7, .string p.8, .string p.9, .int .i64 i] _ _ hS3
 have r211 := (setRow_other w10 w.heap.size (w.heap.size + 1) #[.slice A3 n3 c3, .int .i64 p.1, .string p.2, .string p.3, .string p.4, .string p.5, .int .i64 p.6.1, .string p.6.2, .string p.6.3, .string p.6.4, .string p.6.5, .string p.6.6, .bool p.6.7, .int .i64 p.7, .string p.8, .string p.9, .int .i64 i] (by omega)).trans r210
 have hg11 := (setRow_other w10 w.heap.size g #[.slice A3 n3 c3, .int .i64 p.1, .string p.2, .string p.3, .string p.4, .string p.5, .int .i64 p.6.1, .string p.6.2, .string p.6.3, .string p.6.4, .string p.6.5, .string p.6.6, .bool p.6.7, .int .i64 p.7, .string p.8, .string p.9, .int .i64 i] (by omega)).trans hg10
 have hb13 := below_setRow hb12 (Nat.le_refl _) (g := w.heap.size) #[.slice A3 n3 c3, .int .i64 p.1, .string p.2, .string p.3, .string p.4, .string p.5, .int .i64 p.6.1, .string p.6.2, .string p.6.3, .string p.6.4, .string p.6.5, .string p.6.6, .bool p.6.7, .int .i64 p.7, .string p.8, .string p.9, .int .i64 i]
 have hO4 := own_other hO3 (g := w.heap.size) (fun e => by have := (World.ownsRow.lt hO3 _ e).1; omega) #[.slice A3 n3 c3, .int .i64 p.1, .string p.2, .string p.3, .string p.4, .string p.5, .int .i64 p.6.1, .string p.6.2, .string p.6.3, .string p.6.4, .string p.6.5, .string p.6.6, .bool p.6.7, .int .i64 p.7, .string p.8, .string p.9, .int .i64 i]
 go_simp
 clear hst hS3 r210 hg10 hb12 hO3
 refine hK9.out _ _ (Or.inl (by rfl)) ?_
 clear hK9 K9
 generalize w10.setRow w.heap.size #[.slice A3 n3 c3, .int .i64 p.1, .string p.2, .string p.3, .string p.4, .string p.5, .int .i64 p.6.1, .string p.6.2, .string p.6.3, .string p.6.4, .string p.6.5, .string p.6.6, .bool p.6.7, .int .i64 p.7, .string p.8, .string p.9, .int .i64 i] = w11 at *
 try simp only [Act.put, pu1, pu2, pu3, pu4, pu5, pu6]
 refine dnY ?_
 obtain ⟨A9, c9, e9, hI9, _⟩ := hO4.row
 rw [HN3.out.1] at e9
 injection e9 with e9 _ e9c
 subst e9 e9c
 have hI11 := hide hI9.its
 clear hI9
 have hR17 := hide (range_of r111 0 [.slice A3 n3 c3, .int .i64 p.1, .string p.2, .string p.3, .string p.4, .string p.5, .int .i64 p.6.1, .string p.6.2, .string p.6.3, .string p.6.4, .string p.6.5, .string p.6.6, .bool p.6.7, .int .i64 p.7, .string p.8, .string p.9, .int .i64 i] rfl)
 go_wp2_with (with_reducible refine wpList_load_mid rfl 68 (.tmp 1) rfl w.heap.size 0 rfl _ _ hR17.out Try.underlying68 rfl (by kernel_rfl) ?_)
 refine (put_of (Dg.cutC l i K) A3 n3 c3 HN3.out.1 (by have := HN3.out.2; omega) p (i : Int) (fun x hx => HW.out x (by
  unfold Dg.cutC at hx
  rcases List.mem_append.1 hx with h | h
  ·exact List.mem_of_mem_take h
  ·exact List.mem_of_mem_drop h)) HCV.out ({ y with parent := p.parent } :: R) m g cap sp HLM.out.1 hm0 (by have := HN3.out.2; omega) HCE.out w11 hI11.out hg11).mono ?_
 rintro e w12 ⟨v4, rfl, hO5, hb14⟩
 clear hR17
 obtain ⟨A5, c5, hv5, _, _⟩ := hO5.row
 obtain ⟨m', hm'⟩ : ∃ m', (Dg.putP (Dg.cutC l i K) p ({ y with parent := p.parent } :: R)).length = m' := ⟨_, rfl⟩
 rw [hm'] at hv5
 clear hm'
 subst hv5
 have hl11 := lt_of_block r211
 have r212 := iNext r211 hb14
 have hb15 := bnext hb13 hb14
 have hst := store_part (ty := 24) w12 (w.heap.size + 1) 0 #[.slice none 0 0] (.agg #[.slice A5 m' c5]) #[.slice A5 m' c5] r212 infoCode1 (Nat.le_refl _) (one_code _ _ _) rfl
 have r25 := setRow_heap w12 (w.heap.size + 1) _ #[.slice A5 m' c5] _ _ r212
 have hb16 := below_setRow hb15 (by omega) (g := w.heap.size + 1) #[.slice A5 m' c5]
 have HO2 := hide (own_other hO5 (g := w.heap.size + 1) (fun e => by have := (World.ownsRow.lt hO5 _ e).1; omega) #[.slice A5 m' c5])
 clear hO5 hb14 hb15 r212 r211 hb13 hI11 hO4 hg11 r111
 go_wp2
 rw [HR.out] at HO2
 refine bodyPost_ret (results_c8 Try.results29 _ _ (w.heap.size + 1) 24 #[.slice A5 m' c5] (0, 0) _ rfl r25 Try.underlying24 (by kernel_rfl)) rfl (ApR.own rfl HO2.out (by omega) hb16)
theorem beq_no {a b : ByteArray} (h : a ≠ b) : (a.toList == b.toList) = false := (Lib.bytes_beq_false_iff a b).2 h
theorem beq_yes {a b : ByteArray} (h : a = b) : (a.toList == b.toList) = true := (Lib.bytes_beq_iff a b).2 h
/-- move. -/
theorem move_of (l : List Dg.It) (b off : Nat) (n c : Nat) (hl : l.length = n) (hn : n ≤ 1048576) (p : Dg.Pt) (i : Nat) (hi : Dg.idxI l p.id = some i) (hnc : n ≤ c) (hw : ∀ x ∈ l, ItW x) (hv : Dg.validC l = true) (w : World) (hI : Its w w.heap.size (some ⟨b, off, none⟩) l) :
  Calls Try.prog 29 #[.agg #[.slice (some ⟨b, off, none⟩) n c, .int .i64 p.1, .string p.2, .string p.3, .string p.4, .string p.5, .int .i64 p.6.1, .string p.6.2, .string p.6.3, .string p.6.4, .string p.6.5, .string p.6.6, .bool p.6.7, .int .i64 p.7, .string p.8, .string p.9, .int .i64 i]] w (ApR (Dg.moveP l p i (l.getD i Dg.zeroI)) w) := by
 obtain ⟨hil, hid⟩ := Dg.idxI_some hi
 unfold Dg.moveP
 cases hex : Dg.existsP l p with
 | false =>
  rw [if_pos (Or.inl rfl)]
  exact move_e l b off n c hl hn p i hex w hI
 | true =>
  by_cases h1 : p.parent = p.id
  ·rw [if_pos (Or.inr (Or.inl h1))]
   exact move_1 l b off n c hl hn p i hex (beq_yes h1) w hI
  by_cases h2 : p.after = p.id
  ·rw [if_pos (Or.inr (Or.inr (Or.inl h2)))]
   exact move_2 l b off n c hl hn p i hex (beq_no h1) (beq_yes h2) w hI
  have hy : l[i]? = some (l.getD i Dg.zeroI) := by rw [List.getD_eq_getElem?_getD, List.getElem?_eq_getElem hil, Option.getD_some]
  have big : (p.parent = Dg.nil8 ∨ (p.parent ≠ Dg.nil8 ∧ underC l p.parent p.id = false)) → Calls Try.prog 29 #[.agg #[.slice (some ⟨b, off, none⟩) n c, .int .i64 p.1, .string p.2, .string p.3, .string p.4, .string p.5, .int .i64 p.6.1, .string p.6.2, .string p.6.3, .string p.6.4, .string p.6.5, .string p.6.6, .bool p.6.7, .int .i64 p.7, .string p.8, .string p.9, .int .i64 i]] w (ApR (Dg.putP (Dg.cutC l i (Dg.belowN l p.id)) p ({ l.getD i Dg.zeroI with parent := p.parent } :: (l.drop (i + 1)).take (Dg.belowN l p.id)), 0) w) := fun hc => by
   obtain ⟨t1, _, t3, t4, _⟩ := Dg.tree_at hv hil
   have hcv := Dg.remove_valid hv hil t3 t4 t1
   have hun : p.parent ≠ Dg.nil8 → Dg.underN l p.parent p.id = false := fun hne => by
    rcases hc with h | h
    ·exact absurd h hne
    ·rw [← under_eq hv]; exact h.2
   obtain ⟨_, hce⟩ := Dg.move_place hv hil hid hex h1 h2 hun
   rw [hid] at t1 hcv hce
   rcases hc with h | h
   ·exact move_n l b off n c hl hn p i (by omega) hnc hv _ hy _ rfl (by omega) hex hcv hce (beq_no h1) (beq_no h2) (emp_yes h) hw w hI
   ·exact move_u l b off n c hl hn p i (by omega) hnc hv _ hy _ rfl (by omega) hex hcv hce (beq_no h1) (beq_no h2) (emp_no h.1) hw h.2 w hI
  by_cases h3 : p.parent = Dg.nil8
  ·rw [if_neg (fun h => by
    rcases h with h | h | h | h
    ·cases h
    ·exact h1 h
    ·exact h2 h
    ·exact h.1 h3)]
   exact big (Or.inl h3)
  ·cases hu : Dg.underN l p.parent p.id with
   | true =>
    rw [if_pos (Or.inr (Or.inr (Or.inr ⟨h3, rfl⟩)))]
    exact move_3 l b off n c hl hn p i hex (beq_no h1) (beq_no h2) (emp_no h3) hw (by rw [under_eq hv]; exact hu) w hI
   | false =>
    rw [if_neg (fun h => by
     rcases h with h | h | h | h
     ·cases h
     ·exact h1 h
     ·exact h2 h
     ·cases h.2)]
    exact big (Or.inr ⟨h3, by rw [under_eq hv]; exact hu⟩)
end Go.Proofs.Ytgmimhgeigbpkaa
/- Slices of items of the call's own. No conditions but those that each theorem states. -/
namespace Go.Proofs.Ytgmimhgeigbpkaa
open Go Go.RowKit Go.Sort Go.Maps
end Go.Proofs.Ytgmimhgeigbpkaa
/- Few of the reference, few of the laws. No conditions but those that each theorem states. -/
namespace Go.Proofs.Ytgmimhgeigbpkaa
open Go Go.RowKit Go.Sort Go.Maps
/-- An item whose strings have at most 500 bytes. -/
def smallI (x : Dg.It) : Bool := decide (x.id.size ≤ 500) && decide (x.parent.size ≤ 500) && decide (x.number.size ≤ 500) && decide (x.north.size ≤ 500) && decide (x.south.size ≤ 500)
def fewC (l : List Dg.It) (m : Nat) : Bool := decide (l.length ≤ m) && (l.take m).all smallI
theorem smallI_iff (x : Dg.It) : smallI x = true ↔ x.id.size ≤ 500 ∧ x.parent.size ≤ 500 ∧ x.number.size ≤ 500 ∧ x.north.size ≤ 500 ∧ x.south.size ≤ 500 := by
 unfold smallI
 simp only [Bool.and_eq_true, decide_eq_true_eq, and_assoc]
theorem fewC_spec {l : List Dg.It} {m : Nat} (h : fewC l m = true) : l.length ≤ m ∧ ∀ x ∈ l, smallI x = true := by
 unfold fewC at h
 rw [Bool.and_eq_true, decide_eq_true_eq] at h
 refine ⟨h.1, fun x hx => ?_⟩
 rw [List.take_of_length_le h.1, List.all_eq_true] at h
 exact h.2 x hx
theorem fewC_no {l : List Dg.It} {m k : Nat} (hk : k < l.length) (hm : k < m) (h : smallI l[k] = false) : fewC l m = false := by
 unfold fewC
 have : (l.take m).all smallI = false := by
  rw [List.all_eq_false]
  exact ⟨l[k], List.mem_take_iff_getElem.2 ⟨k, by omega, rfl⟩, by rw [h]; exact Bool.false_ne_true⟩
 rw [this, Bool.and_false]
theorem fewC_yes {l : List Dg.It} {m : Nat} (hm : l.length ≤ m) (h : ∀ x ∈ l, smallI x = true) : fewC l m = true := by
 unfold fewC
 rw [decide_eq_true hm, Bool.true_and, List.take_of_length_le hm, List.all_eq_true]
 exact h
theorem fewC_many {l : List Dg.It} {m : Nat} (hm : m < l.length) : fewC l m = false := by
 unfold fewC
 rw [decide_eq_false (by omega), Bool.false_and]
set_option maxRecDepth 100000 in
set_option maxHeartbeats 8000000 in
theorem rfew_of (l : List Dg.It) (A : Option Addr) (n c m : Nat) (hl : l.length = n) (hn : n ≤ 9223372036854775807) (hm : m ≤ 1000) (w : World) (hI : Its w w.heap.size A l) (R : Bool) (hR : fewC l m = R) :
  Calls Try.prog 5 #[.agg #[.slice A n c], .int .i64 (m : Int)] w fun e w' => e = .returned (.bool R) ∧ Below w.heap.size w w' := by
 have hx1 := Below.news (Below.refl w.heap.size w) (.cells #[.slice A n c] 24)
 have hrow := heap_alloc_new w (.cells #[.slice A n c] 24)
 have HL := hide hl; have HR := hide hR; have HI := hide hI
 clear hl hR hI
 go_enter Try.func5, Try.ntmps5
 go_wp2
 go_loopw [5] (fun iv wr => ∃ k : Nat, k ≤ n ∧ k ≤ m ∧ iv = .int .i64 (k : Int) ∧ Below w.heap.size w wr ∧ wr.heap[w.heap.size]? = some (.cells #[.slice A n c] 24 (0, 0)) ∧ Hid (∀ x ∈ l.take k, smallI x = true)) (fun iv _ => n - (intOf iv).toNat)
 case atStart => exact ⟨0, by omega, by omega, rfl, hx1, hrow, fun x hx => by simp at hx⟩
 case round =>
  obtain ⟨k, hk, hkm, rfl, hb, hr, hall⟩ := hrel
  clear hrow hx1
  have hc := iCells0 hr
  by_cases hlt : k < n
  ·have hkn : (k : Int) < (n : Int) := by omega
   by_cases hlm : k < m
   ·have hkm2 : (k : Int) < (m : Int) := by omega
    have hk0 : (0 : Int) ≤ (k : Int) := by omega
    have hkl : k < l.length := by rw [HL.out]; exact hlt
    have hIr := HI.out.below hb
    obtain ⟨b, off, rfl⟩ := hIr.some hkl
    obtain ⟨x, hx⟩ : ∃ x, l[k] = x := ⟨_, rfl⟩
    obtain ⟨hbl, p0, p1, p2, p3, p4, p5, p6⟩ := hIr.cells hkl x hx
    have HX := hide hx
    clear hx hIr
    have hx2 := Below.news (Below.refl wr.heap.size wr) (.cells #[.int .i64 x.1, .string x.2, .string x.3, .string x.4, .string x.5, .string x.6, .bool x.7] 37)
    have hrx := heap_alloc_new wr (.cells #[.int .i64 x.1, .string x.2, .string x.3, .string x.4, .string x.5, .string x.6, .bool x.7] 37)
    have hr2 := iNext hr hx2
    have hb2 := bnext hb hx2
    go_upto_region 5 with (fail)
    generalize wr.alloc (.cells #[.int .i64 x.1, .string x.2, .string x.3, .string x.4, .string x.5, .string x.6, .bool x.7] 37) = w2 at *
    obtain ⟨c0, c1, c2, c3, c4, c5, c6⟩ := iCells hrx
    clear p0 p1 p2 p3 p4 p5 p6 hc hr hx2 hb
    by_cases s0 : (500 : Int) < (x.id.size : Int)
    ·skip
     have E9 := hide (show false = R by rw [← HR.out]; exact (fewC_no hkl hlm (by rw [HX.out]; cases hs : smallI x with | false => rfl | true => exact absurd ((smallI_iff x).1 hs) (by omega))).symm)
     go_wp2
     go_ret
     exact ⟨ret_bool E9.out, hb2⟩
    by_cases s1 : (500 : Int) < (x.parent.size : Int)
    ·skip
     have E9 := hide (show false = R by rw [← HR.out]; exact (fewC_no hkl hlm (by rw [HX.out]; cases hs : smallI x with | false => rfl | true => exact absurd ((smallI_iff x).1 hs) (by omega))).symm)
     go_wp2
     go_ret
     exact ⟨ret_bool E9.out, hb2⟩
    by_cases s2 : (500 : Int) < (x.number.size : Int)
    ·skip
     have E9 := hide (show false = R by rw [← HR.out]; exact (fewC_no hkl hlm (by rw [HX.out]; cases hs : smallI x with | false => rfl | true => exact absurd ((smallI_iff x).1 hs) (by omega))).symm)
     go_wp2
     go_ret
     exact ⟨ret_bool E9.out, hb2⟩
    by_cases s3 : (500 : Int) < (x.north.size : Int)
    ·skip
     have E9 := hide (show false = R by rw [← HR.out]; exact (fewC_no hkl hlm (by rw [HX.out]; cases hs : smallI x with | false => rfl | true => exact absurd ((smallI_iff x).1 hs) (by omega))).symm)
     go_wp2
     go_ret
     exact ⟨ret_bool E9.out, hb2⟩
    by_cases s4 : (500 : Int) < (x.south.size : Int)
    ·skip
     have E9 := hide (show false = R by rw [← HR.out]; exact (fewC_no hkl hlm (by rw [HX.out]; cases hs : smallI x with | false => rfl | true => exact absurd ((smallI_iff x).1 hs) (by omega))).symm)
     go_wp2
     go_ret
     exact ⟨ret_bool E9.out, hb2⟩
    have HS := hide (show smallI x = true from (smallI_iff x).2 (by omega))
    go_wp2
    go_roundw
    case rel => exact ⟨k + 1, by omega, by omega, by go_num, hb2, hr2, fun y hy => by
     rw [List.take_succ_eq_append_getElem hkl, HX.out] at hy
     rcases List.mem_append.1 hy with h | h
     ·exact hall.out y h
     ·rw [List.mem_singleton.1 h]; exact HS.out⟩
    case measure => simp [intOf]; omega
   ·obtain rfl : k = m := by omega
    have hkm2 : ¬ (k : Int) < (k : Int) := by omega
    have hnn : ¬ (n : Int) ≤ (k : Int) := by omega
    have hf := fewC_many (l := l) (m := k) (by rw [HL.out]; exact hlt)
    have e9 := HR.out
    rw [hf] at e9
    have E9 := hide e9
    clear hf e9
    go_wp2
    go_ret
    exact ⟨ret_bool E9.out, hb⟩
  ·obtain rfl : k = n := by omega
   have hkn : ¬ (k : Int) < (k : Int) := by omega
   have hnn : (k : Int) ≤ (m : Int) := by omega
   have hf := fewC_yes (l := l) (m := m) (by rw [HL.out]; exact hkm) (by have h := hall.out; rw [← HL.out, List.take_length] at h; exact h)
   have e9 := HR.out
   rw [hf] at e9
   have E9 := hide e9
   clear hf e9
   go_wp2
   go_ret
   exact ⟨ret_bool E9.out, hb⟩
end Go.Proofs.Ytgmimhgeigbpkaa
/- few of the laws. No conditions but those that each theorem states. -/
namespace Go.Proofs.Ytgmimhgeigbpkaa
open Go Go.RowKit Go.Sort Go.Maps
end Go.Proofs.Ytgmimhgeigbpkaa
/- Same of the reference for codes. No conditions but those that each theorem states. -/
namespace Go.Proofs.Ytgmimhgeigbpkaa
open Go Go.RowKit Go.Sort Go.Maps
theorem bytes_beq (a b : ByteArray) : (a.toList == b.toList) = true ↔ a = b := by
 rw [beq_iff_eq]
 constructor
 ·intro h
  rw [ByteArray.toList_eq, ByteArray.toList_eq] at h
  obtain ⟨⟨x⟩⟩ := a
  obtain ⟨⟨y⟩⟩ := b
  simpa using h
 ·rintro rfl; rfl
theorem it_ext {x y : Dg.It} (h1 : x.kind = y.kind) (h2 : x.id = y.id) (h3 : x.parent = y.parent) (h4 : x.number = y.number) (h5 : x.north = y.north) (h6 : x.south = y.south) (h7 : x.gone = y.gone) : x = y := by
 cases x; cases y; simp_all
def sameI (x y : Dg.It) : Bool := (x.kind == y.kind) && ((x.id.toList == y.id.toList) && ((x.parent.toList == y.parent.toList) && ((x.number.toList == y.number.toList) && ((x.north.toList == y.north.toList) && ((x.south.toList == y.south.toList) && (x.gone == y.gone))))))
theorem sameI_iff (x y : Dg.It) : sameI x y = true ↔ x = y := by
 unfold sameI
 rw [Bool.and_eq_true, Bool.and_eq_true, Bool.and_eq_true, Bool.and_eq_true, Bool.and_eq_true, Bool.and_eq_true, bytes_beq, bytes_beq, bytes_beq, bytes_beq, bytes_beq, beq_iff_eq, beq_iff_eq]
 constructor
 ·rintro ⟨h1, h2, h3, h4, h5, h6, h7⟩
  exact it_ext h1 h2 h3 h4 h5 h6 h7
 ·rintro rfl
  exact ⟨rfl, rfl, rfl, rfl, rfl, rfl, rfl⟩
set_option maxRecDepth 100000 in
theorem item_run (w : World) (x y : Dg.It) : (binOp .neq 37 (.agg #[.int .i64 x.1, .string x.2, .string x.3, .string x.4, .string x.5, .string x.6, .bool x.7]) (.agg #[.int .i64 y.1, .string y.2, .string y.3, .string y.4, .string y.5, .string y.6, .bool y.7])).run Try.prog w = .ok (.bool (!sameI x y)) w := by
 have hS : Try.prog.underlying 37 = some (.struct (Try.prog.fieldsOf 37)) := by kernel_rfl
 have hp : Try.prog.stoodInHeld 37 = false := by kernel_rfl
 rw [run_neq_struct, show (10000 : Nat) = 9999 + 1 from rfl, run_equalIn_agg w 9999 37 _ _ hS hp]
 simp only [Program.fieldsOf, Try.underlying37]
 have u3 := Try.underlying3
 have u4 := Try.underlying4
 have u5 := Try.underlying9
 have a3 := Try.isAgg3
 have a4 := Try.isAgg4
 have a5 := Try.isAgg9
 have z3 := Try.sizeOf3
 have z4 := Try.sizeOf4
 have z5 := Try.sizeOf9
 go_simp
 unfold sameI
 by_cases h1 : x.kind = y.kind <;> by_cases h2 : x.id.toList = y.id.toList <;> by_cases h3 : x.parent.toList = y.parent.toList <;> by_cases h4 : x.number.toList = y.number.toList <;> by_cases h5 : x.north.toList = y.north.toList <;> by_cases h6 : x.south.toList = y.south.toList <;> by_cases h7 : x.gone = y.gone <;> simp [h1, h2, h3, h4, h5, h6, h7]
end Go.Proofs.Ytgmimhgeigbpkaa
/- Items and patches compared. No conditions but those that each theorem states. -/
namespace Go.Proofs.Ytgmimhgeigbpkaa
open Go Go.RowKit Go.Sort Go.Maps
theorem pt_ext {x y : Dg.Pt} (h1 : x.kind = y.kind) (h2 : x.id = y.id) (h3 : x.parent = y.parent) (h4 : x.after = y.after) (h5 : x.number = y.number) (h6 : x.item = y.item) (h7 : x.lang = y.lang) (h8 : x.src = y.src) (h9 : x.dst = y.dst) : x = y := by
 cases x; cases y; simp_all
def sameP (p q : Dg.Pt) : Bool := (p.kind == q.kind) && ((p.id.toList == q.id.toList) && ((p.parent.toList == q.parent.toList) && ((p.after.toList == q.after.toList) && ((p.number.toList == q.number.toList) && (sameI p.item q.item && ((p.lang == q.lang) && ((p.src.toList == q.src.toList) && ((p.dst.toList == q.dst.toList)))))))))
theorem sameP_iff (p q : Dg.Pt) : sameP p q = true ↔ p = q := by
 unfold sameP
 rw [Bool.and_eq_true, Bool.and_eq_true, Bool.and_eq_true, Bool.and_eq_true, Bool.and_eq_true, Bool.and_eq_true, Bool.and_eq_true, Bool.and_eq_true, bytes_beq, bytes_beq, bytes_beq, bytes_beq, bytes_beq, bytes_beq, beq_iff_eq, beq_iff_eq, sameI_iff]
 constructor
 ·rintro ⟨h1, h2, h3, h4, h5, h6, h7, h8, h9⟩
  exact pt_ext h1 h2 h3 h4 h5 h6 h7 h8 h9
 ·rintro rfl
  exact ⟨rfl, rfl, rfl, rfl, rfl, rfl, rfl, rfl, rfl⟩
theorem sameP_dec (p q : Dg.Pt) : sameP p q = decide (p = q) := by
 rw [Bool.eq_iff_iff, sameP_iff, decide_eq_true_iff]
set_option maxRecDepth 100000 in
theorem item_eqIn (d : Nat) (w : World) (x y : Dg.It) : (Op.equalIn (d + 2) 37 (.agg #[.int .i64 x.1, .string x.2, .string x.3, .string x.4, .string x.5, .string x.6, .bool x.7]) (.agg #[.int .i64 y.1, .string y.2, .string y.3, .string y.4, .string y.5, .string y.6, .bool y.7])).run Try.prog w = .ok (sameI x y) w := by
 have hS : Try.prog.underlying 37 = some (.struct (Try.prog.fieldsOf 37)) := by kernel_rfl
 have hp : Try.prog.stoodInHeld 37 = false := by kernel_rfl
 rw [run_equalIn_struct w (d + 1) 37 _ _ hS hp]
 simp only [Program.fieldsOf, Try.underlying37]
 have u3 := Try.underlying3
 have u4 := Try.underlying4
 have u5 := Try.underlying9
 have a3 := Try.isAgg3
 have a4 := Try.isAgg4
 have a5 := Try.isAgg9
 have z3 := Try.sizeOf3
 have z4 := Try.sizeOf4
 have z5 := Try.sizeOf9
 go_simp
 unfold sameI
 by_cases h1 : x.kind = y.kind <;> by_cases h2 : x.id.toList = y.id.toList <;> by_cases h3 : x.parent.toList = y.parent.toList <;> by_cases h4 : x.number.toList = y.number.toList <;> by_cases h5 : x.north.toList = y.north.toList <;> by_cases h6 : x.south.toList = y.south.toList <;> by_cases h7 : x.gone = y.gone <;> simp [h1, h2, h3, h4, h5, h6, h7]
set_option maxRecDepth 100000 in
theorem patch_run (w : World) (p q : Dg.Pt) : (binOp .eql 39 (.agg #[.int .i64 p.1, .string p.2, .string p.3, .string p.4, .string p.5, .int .i64 p.6.1, .string p.6.2, .string p.6.3, .string p.6.4, .string p.6.5, .string p.6.6, .bool p.6.7, .int .i64 p.7, .string p.8, .string p.9]) (.agg #[.int .i64 q.1, .string q.2, .string q.3, .string q.4, .string q.5, .int .i64 q.6.1, .string q.6.2, .string q.6.3, .string q.6.4, .string q.6.5, .string q.6.6, .bool q.6.7, .int .i64 q.7, .string q.8, .string q.9])).run Try.prog w = .ok (.bool (sameP p q)) w := by
 have hS : Try.prog.underlying 39 = some (.struct (Try.prog.fieldsOf 39)) := by kernel_rfl
 have hp : Try.prog.stoodInHeld 39 = false := by kernel_rfl
 rw [run_eql_struct, show (10000 : Nat) = 9999 + 1 from rfl, run_equalIn_agg w 9999 39 _ _ hS hp]
 simp only [Program.fieldsOf, Try.underlying39]
 have u3 := Try.underlying3
 have u5 := Try.underlying9
 have a3 := Try.isAgg3
 have a5 := Try.isAgg9
 have a7 := Try.isAgg37
 have z3 := Try.sizeOf3
 have z5 := Try.sizeOf9
 have z7 := Try.sizeOf37
 have hI := fun (w : World) => item_eqIn 9997 w p.item q.item
 go_simp
 unfold sameP
 by_cases h1 : p.kind = q.kind
 case neg => simp [h1]
 by_cases h2 : p.id.toList = q.id.toList
 case neg => simp [h1, h2]
 by_cases h3 : p.parent.toList = q.parent.toList
 case neg => simp [h1, h2, h3]
 by_cases h4 : p.after.toList = q.after.toList
 case neg => simp [h1, h2, h3, h4]
 by_cases h5 : p.number.toList = q.number.toList
 case neg => simp [h1, h2, h3, h4, h5]
 by_cases h6 : sameI p.item q.item = true
 case neg => simp [h1, h2, h3, h4, h5, h6]
 by_cases h7 : p.lang = q.lang
 case neg => simp [h1, h2, h3, h4, h5, h6, h7]
 by_cases h8 : p.src.toList = q.src.toList
 case neg => simp [h1, h2, h3, h4, h5, h6, h7, h8]
 by_cases h9 : p.dst.toList = q.dst.toList
 case neg => simp [h1, h2, h3, h4, h5, h6, h7, h8, h9]
 simp [h1, h2, h3, h4, h5, h6, h7, h8, h9]
end Go.Proofs.Ytgmimhgeigbpkaa
/- formed of package patch. No conditions but those that each theorem states. -/
namespace Go.Proofs.Ytgmimhgeigbpkaa
open Go Go.RowKit Go.Sort Go.Maps
set_option maxRecDepth 100000 in
set_option maxHeartbeats 8000000 in
/-- Whether an item alone makes a valid code. -/
theorem validF_of (x : Dg.It) (hx : ItW x) (w : World) (R : Bool) (hR : Dg.validC [x] = R) :
  Calls Try.prog 43 #[.agg #[.int .i64 x.1, .string x.2, .string x.3, .string x.4, .string x.5, .string x.6, .bool x.7]] w fun e w' => e = .returned (.bool R) ∧ Below w.heap.size w w' := by
 have r1 := heap_alloc_new w (.cells #[.int .i64 x.1, .string x.2, .string x.3, .string x.4, .string x.5, .string x.6, .bool x.7] 37)
 have hb1 := Below.news (Below.refl w.heap.size w) (.cells #[.int .i64 x.1, .string x.2, .string x.3, .string x.4, .string x.5, .string x.6, .bool x.7] 37)
 have HR := hide hR; have HX := hide hx
 clear hR hx
 have hRI := hide (range_of r1 0 [.int .i64 x.1, .string x.2, .string x.3, .string x.4, .string x.5, .string x.6, .bool x.7] rfl)
 go_enter Try.func43, Try.ntmps43
 go_upto_region 1 with (fail)
 generalize w.alloc (.cells #[.int .i64 x.1, .string x.2, .string x.3, .string x.4, .string x.5, .string x.6, .bool x.7] 37) = w1 at *
 go_wp2_with (with_reducible refine wpList_load_mid rfl 37 (.tmp 1) rfl w.heap.size 0 rfl _ _ hRI.out Try.underlying37 rfl (by kernel_rfl) ?_)
 have hbn := Below.news (Below.refl w1.heap.size w1) (.cells #[.int .i64 x.1, .string x.2, .string x.3, .string x.4, .string x.5, .string x.6, .bool x.7] 37)
 have hO : Own1 iLay 37 (w1.alloc (.cells #[.int .i64 x.1, .string x.2, .string x.3, .string x.4, .string x.5, .string x.6, .bool x.7] 37)) w1.heap.size (.slice (some ⟨w1.heap.size, 0, none⟩) 1 1) [x] := Own1.mk (L := iLay) (l := [x]) (sp := []) (Nat.le_refl _) (heap_alloc_new w1 _) (by unfold maxLen; decide) (Nat.le_refl _) rfl
 obtain ⟨A, c, e, hI, _⟩ := hO.row
 injection e with e e1 ec
 clear e1
 subst e ec
 have HI := hide hI.its
 have hb2 := bnext hb1 hbn
 clear hO hI hbn hRI r1 hb1
 generalize w1.alloc (.cells #[.int .i64 x.1, .string x.2, .string x.3, .string x.4, .string x.5, .string x.6, .bool x.7] 37) = w2 at *
 refine (Code.valid_of [x] (some ⟨w1.heap.size, 0, none⟩) 1 1 rfl (fun z hz => by rw [List.mem_singleton.1 hz]; exact HX.out) (by decide) w2 HI.out R HR.out).mono ?_
 rintro e w3 ⟨rfl, hb3⟩
 have hb4 := bnext hb2 hb3
 clear hb3 HI hb2
 go_wp2
 go_ret
 exact ⟨rfl, hb4⟩
set_option maxRecDepth 100000 in
set_option maxHeartbeats 8000000 in
attribute [-go_sem] Instr.storeAt in
attribute [-go_sem] run_eql_struct in
theorem formed_5 (p : Dg.Pt) (R1 : Bool) (hR1 : sameP p (Dg.barePt p.kind p.id) = R1) (k1 : (p.kind == 1) = false) (k2 : (p.kind == 2) = false) (k3 : (p.kind == 3) = false) (k4 : (p.kind == 4) = false) (k5 : (p.kind == 5) = true) (w : World) :
  Calls Try.prog 25 #[.agg #[.int .i64 p.1, .string p.2, .string p.3, .string p.4, .string p.5, .int .i64 p.6.1, .string p.6.2, .string p.6.3, .string p.6.4, .string p.6.5, .string p.6.6, .bool p.6.7, .int .i64 p.7, .string p.8, .string p.9]] w fun e w' => e = .returned (.bool R1) ∧ Below w.heap.size w w' := by
 have r1 := heap_alloc_new w (.cells #[.int .i64 p.1, .string p.2, .string p.3, .string p.4, .string p.5, .int .i64 p.6.1, .string p.6.2, .string p.6.3, .string p.6.4, .string p.6.5, .string p.6.6, .bool p.6.7, .int .i64 p.7, .string p.8, .string p.9] 39)
 have hb1 := Below.news (Below.refl w.heap.size w) (.cells #[.int .i64 p.1, .string p.2, .string p.3, .string p.4, .string p.5, .int .i64 p.6.1, .string p.6.2, .string p.6.3, .string p.6.4, .string p.6.5, .string p.6.6, .bool p.6.7, .int .i64 p.7, .string p.8, .string p.9] 39)
 have hmx : Try.prog.follows .mixedOrders = true := by kernel_rfl
 have HR1 := hide hR1
 clear hR1
 go_enter Try.func25, Try.ntmps25
 go_upto_region 1 with (fail)
 generalize w.alloc (.cells #[.int .i64 p.1, .string p.2, .string p.3, .string p.4, .string p.5, .int .i64 p.6.1, .string p.6.2, .string p.6.3, .string p.6.4, .string p.6.5, .string p.6.6, .bool p.6.7, .int .i64 p.7, .string p.8, .string p.9] 39) = w1 at *
 have hcs := jC15 r1
 have c0 := hcs.1; have c1 := hcs.2.1
 clear hcs
 have hst := store_new (ty := 39) (T := 39) w1 #[.int .i64 0, .string ⟨#[]⟩, .string ⟨#[]⟩, .string ⟨#[]⟩, .string ⟨#[]⟩, .int .i64 0, .string ⟨#[]⟩, .string ⟨#[]⟩, .string ⟨#[]⟩, .string ⟨#[]⟩, .string ⟨#[]⟩, .bool false, .int .i64 0, .string ⟨#[]⟩, .string ⟨#[]⟩] #[.int .i64 p.kind, .string p.id, .string ⟨#[]⟩, .string ⟨#[]⟩, .string ⟨#[]⟩, .int .i64 0, .string ⟨#[]⟩, .string ⟨#[]⟩, .string ⟨#[]⟩, .string ⟨#[]⟩, .string ⟨#[]⟩, .bool false, .int .i64 0, .string ⟨#[]⟩, .string ⟨#[]⟩] (by kernel_rfl) rfl (all_oneCell_toArray (ptL.one (Dg.barePt p.kind p.id)))
 have r3 := heap_alloc_new w1 (.cells #[.int .i64 p.kind, .string p.id, .string ⟨#[]⟩, .string ⟨#[]⟩, .string ⟨#[]⟩, .int .i64 0, .string ⟨#[]⟩, .string ⟨#[]⟩, .string ⟨#[]⟩, .string ⟨#[]⟩, .string ⟨#[]⟩, .bool false, .int .i64 0, .string ⟨#[]⟩, .string ⟨#[]⟩] 39)
 have hbn := Below.news (Below.refl w1.heap.size w1) (.cells #[.int .i64 p.kind, .string p.id, .string ⟨#[]⟩, .string ⟨#[]⟩, .string ⟨#[]⟩, .int .i64 0, .string ⟨#[]⟩, .string ⟨#[]⟩, .string ⟨#[]⟩, .string ⟨#[]⟩, .string ⟨#[]⟩, .bool false, .int .i64 0, .string ⟨#[]⟩, .string ⟨#[]⟩] 39)
 have r12 := iNext r1 hbn
 have hb2 := bnext hb1 hbn
 have hsz := lt_of_block r1
 go_upto_region 20 with (fail)
 clear hst c1 hbn hb1 r1
 obtain ⟨b3, hb3⟩ : ∃ b3, b3 = w1.heap.size := ⟨_, rfl⟩
 have HB3 := hide hb3
 rw [← hb3] at r3 hsz ⊢
 clear hb3
 generalize w1.alloc (.cells #[.int .i64 p.kind, .string p.id, .string ⟨#[]⟩, .string ⟨#[]⟩, .string ⟨#[]⟩, .int .i64 0, .string ⟨#[]⟩, .string ⟨#[]⟩, .string ⟨#[]⟩, .string ⟨#[]⟩, .string ⟨#[]⟩, .bool false, .int .i64 0, .string ⟨#[]⟩, .string ⟨#[]⟩] 39) = w2 at *
 clear HB3
 clear c0
 have hpr : ∀ w, (binOp .eql 39 (.agg #[.int .i64 p.1, .string p.2, .string p.3, .string p.4, .string p.5, .int .i64 p.6.1, .string p.6.2, .string p.6.3, .string p.6.4, .string p.6.5, .string p.6.6, .bool p.6.7, .int .i64 p.7, .string p.8, .string p.9]) (.agg #[.int .i64 p.kind, .string p.id, .string ⟨#[]⟩, .string ⟨#[]⟩, .string ⟨#[]⟩, .int .i64 0, .string ⟨#[]⟩, .string ⟨#[]⟩, .string ⟨#[]⟩, .string ⟨#[]⟩, .string ⟨#[]⟩, .bool false, .int .i64 0, .string ⟨#[]⟩, .string ⟨#[]⟩])).run Try.prog w = .ok (.bool R1) w := fun w => by rw [← HR1.out]; exact patch_run w p (Dg.barePt p.kind p.id)
 have hL1 := hide (range_of r12 0 [.int .i64 p.1, .string p.2, .string p.3, .string p.4, .string p.5, .int .i64 p.6.1, .string p.6.2, .string p.6.3, .string p.6.4, .string p.6.5, .string p.6.6, .bool p.6.7, .int .i64 p.7, .string p.8, .string p.9] rfl)
 have hL3 := hide (range_of r3 0 [.int .i64 p.kind, .string p.id, .string ⟨#[]⟩, .string ⟨#[]⟩, .string ⟨#[]⟩, .int .i64 0, .string ⟨#[]⟩, .string ⟨#[]⟩, .string ⟨#[]⟩, .string ⟨#[]⟩, .string ⟨#[]⟩, .bool false, .int .i64 0, .string ⟨#[]⟩, .string ⟨#[]⟩] rfl)
 go_wp2_with (first | (with_reducible refine wpList_load_mid rfl 39 (.tmp 1) rfl w.heap.size 0 rfl _ _ hL1.out Try.underlying39 rfl (by kernel_rfl) ?_) | (with_reducible refine wpList_load_mid rfl 39 (.tmp 3) rfl b3 0 rfl _ _ hL3.out Try.underlying39 rfl (by kernel_rfl) ?_))
 go_ret
 exact ⟨rfl, hb2⟩
set_option maxRecDepth 100000 in
set_option maxHeartbeats 8000000 in
attribute [-go_sem] Instr.storeAt in
attribute [-go_sem] run_eql_struct in
theorem formed_6 (p : Dg.Pt) (R1 : Bool) (hR1 : sameP p (Dg.barePt p.kind p.id) = R1) (k1 : (p.kind == 1) = false) (k2 : (p.kind == 2) = false) (k3 : (p.kind == 3) = false) (k4 : (p.kind == 4) = false) (k5 : (p.kind == 5) = false) (k6 : (p.kind == 6) = true) (w : World) :
  Calls Try.prog 25 #[.agg #[.int .i64 p.1, .string p.2, .string p.3, .string p.4, .string p.5, .int .i64 p.6.1, .string p.6.2, .string p.6.3, .string p.6.4, .string p.6.5, .string p.6.6, .bool p.6.7, .int .i64 p.7, .string p.8, .string p.9]] w fun e w' => e = .returned (.bool R1) ∧ Below w.heap.size w w' := by
 have r1 := heap_alloc_new w (.cells #[.int .i64 p.1, .string p.2, .string p.3, .string p.4, .string p.5, .int .i64 p.6.1, .string p.6.2, .string p.6.3, .string p.6.4, .string p.6.5, .string p.6.6, .bool p.6.7, .int .i64 p.7, .string p.8, .string p.9] 39)
 have hb1 := Below.news (Below.refl w.heap.size w) (.cells #[.int .i64 p.1, .string p.2, .string p.3, .string p.4, .string p.5, .int .i64 p.6.1, .string p.6.2, .string p.6.3, .string p.6.4, .string p.6.5, .string p.6.6, .bool p.6.7, .int .i64 p.7, .string p.8, .string p.9] 39)
 have hmx : Try.prog.follows .mixedOrders = true := by kernel_rfl
 have HR1 := hide hR1
 clear hR1
 go_enter Try.func25, Try.ntmps25
 go_upto_region 1 with (fail)
 generalize w.alloc (.cells #[.int .i64 p.1, .string p.2, .string p.3, .string p.4, .string p.5, .int .i64 p.6.1, .string p.6.2, .string p.6.3, .string p.6.4, .string p.6.5, .string p.6.6, .bool p.6.7, .int .i64 p.7, .string p.8, .string p.9] 39) = w1 at *
 have hcs := jC15 r1
 have c0 := hcs.1; have c1 := hcs.2.1
 clear hcs
 have hst := store_new (ty := 39) (T := 39) w1 #[.int .i64 0, .string ⟨#[]⟩, .string ⟨#[]⟩, .string ⟨#[]⟩, .string ⟨#[]⟩, .int .i64 0, .string ⟨#[]⟩, .string ⟨#[]⟩, .string ⟨#[]⟩, .string ⟨#[]⟩, .string ⟨#[]⟩, .bool false, .int .i64 0, .string ⟨#[]⟩, .string ⟨#[]⟩] #[.int .i64 p.kind, .string p.id, .string ⟨#[]⟩, .string ⟨#[]⟩, .string ⟨#[]⟩, .int .i64 0, .string ⟨#[]⟩, .string ⟨#[]⟩, .string ⟨#[]⟩, .string ⟨#[]⟩, .string ⟨#[]⟩, .bool false, .int .i64 0, .string ⟨#[]⟩, .string ⟨#[]⟩] (by kernel_rfl) rfl (all_oneCell_toArray (ptL.one (Dg.barePt p.kind p.id)))
 have r3 := heap_alloc_new w1 (.cells #[.int .i64 p.kind, .string p.id, .string ⟨#[]⟩, .string ⟨#[]⟩, .string ⟨#[]⟩, .int .i64 0, .string ⟨#[]⟩, .string ⟨#[]⟩, .string ⟨#[]⟩, .string ⟨#[]⟩, .string ⟨#[]⟩, .bool false, .int .i64 0, .string ⟨#[]⟩, .string ⟨#[]⟩] 39)
 have hbn := Below.news (Below.refl w1.heap.size w1) (.cells #[.int .i64 p.kind, .string p.id, .string ⟨#[]⟩, .string ⟨#[]⟩, .string ⟨#[]⟩, .int .i64 0, .string ⟨#[]⟩, .string ⟨#[]⟩, .string ⟨#[]⟩, .string ⟨#[]⟩, .string ⟨#[]⟩, .bool false, .int .i64 0, .string ⟨#[]⟩, .string ⟨#[]⟩] 39)
 have r12 := iNext r1 hbn
 have hb2 := bnext hb1 hbn
 have hsz := lt_of_block r1
 go_upto_region 20 with (fail)
 clear hst c1 hbn hb1 r1
 obtain ⟨b3, hb3⟩ : ∃ b3, b3 = w1.heap.size := ⟨_, rfl⟩
 have HB3 := hide hb3
 rw [← hb3] at r3 hsz ⊢
 clear hb3
 generalize w1.alloc (.cells #[.int .i64 p.kind, .string p.id, .string ⟨#[]⟩, .string ⟨#[]⟩, .string ⟨#[]⟩, .int .i64 0, .string ⟨#[]⟩, .string ⟨#[]⟩, .string ⟨#[]⟩, .string ⟨#[]⟩, .string ⟨#[]⟩, .bool false, .int .i64 0, .string ⟨#[]⟩, .string ⟨#[]⟩] 39) = w2 at *
 clear HB3
 clear c0
 have hpr : ∀ w, (binOp .eql 39 (.agg #[.int .i64 p.1, .string p.2, .string p.3, .string p.4, .string p.5, .int .i64 p.6.1, .string p.6.2, .string p.6.3, .string p.6.4, .string p.6.5, .string p.6.6, .bool p.6.7, .int .i64 p.7, .string p.8, .string p.9]) (.agg #[.int .i64 p.kind, .string p.id, .string ⟨#[]⟩, .string ⟨#[]⟩, .string ⟨#[]⟩, .int .i64 0, .string ⟨#[]⟩, .string ⟨#[]⟩, .string ⟨#[]⟩, .string ⟨#[]⟩, .string ⟨#[]⟩, .bool false, .int .i64 0, .string ⟨#[]⟩, .string ⟨#[]⟩])).run Try.prog w = .ok (.bool R1) w := fun w => by rw [← HR1.out]; exact patch_run w p (Dg.barePt p.kind p.id)
 have hL1 := hide (range_of r12 0 [.int .i64 p.1, .string p.2, .string p.3, .string p.4, .string p.5, .int .i64 p.6.1, .string p.6.2, .string p.6.3, .string p.6.4, .string p.6.5, .string p.6.6, .bool p.6.7, .int .i64 p.7, .string p.8, .string p.9] rfl)
 have hL3 := hide (range_of r3 0 [.int .i64 p.kind, .string p.id, .string ⟨#[]⟩, .string ⟨#[]⟩, .string ⟨#[]⟩, .int .i64 0, .string ⟨#[]⟩, .string ⟨#[]⟩, .string ⟨#[]⟩, .string ⟨#[]⟩, .string ⟨#[]⟩, .bool false, .int .i64 0, .string ⟨#[]⟩, .string ⟨#[]⟩] rfl)
 go_wp2_with (first | (with_reducible refine wpList_load_mid rfl 39 (.tmp 1) rfl w.heap.size 0 rfl _ _ hL1.out Try.underlying39 rfl (by kernel_rfl) ?_) | (with_reducible refine wpList_load_mid rfl 39 (.tmp 3) rfl b3 0 rfl _ _ hL3.out Try.underlying39 rfl (by kernel_rfl) ?_))
 go_ret
 exact ⟨rfl, hb2⟩
set_option maxRecDepth 100000 in
set_option maxHeartbeats 8000000 in
attribute [-go_sem] Instr.storeAt in
attribute [-go_sem] run_eql_struct in
theorem formed_0 (p : Dg.Pt) (k1 : (p.kind == 1) = false) (k2 : (p.kind == 2) = false) (k3 : (p.kind == 3) = false) (k4 : (p.kind == 4) = false) (k5 : (p.kind == 5) = false) (k6 : (p.kind == 6) = false) (k7 : (p.kind == 7) = false) (w : World) :
  Calls Try.prog 25 #[.agg #[.int .i64 p.1, .string p.2, .string p.3, .string p.4, .string p.5, .int .i64 p.6.1, .string p.6.2, .string p.6.3, .string p.6.4, .string p.6.5, .string p.6.6, .bool p.6.7, .int .i64 p.7, .string p.8, .string p.9]] w fun e w' => e = .returned (.bool false) ∧ Below w.heap.size w w' := by
 have r1 := heap_alloc_new w (.cells #[.int .i64 p.1, .string p.2, .string p.3, .string p.4, .string p.5, .int .i64 p.6.1, .string p.6.2, .string p.6.3, .string p.6.4, .string p.6.5, .string p.6.6, .bool p.6.7, .int .i64 p.7, .string p.8, .string p.9] 39)
 have hb1 := Below.news (Below.refl w.heap.size w) (.cells #[.int .i64 p.1, .string p.2, .string p.3, .string p.4, .string p.5, .int .i64 p.6.1, .string p.6.2, .string p.6.3, .string p.6.4, .string p.6.5, .string p.6.6, .bool p.6.7, .int .i64 p.7, .string p.8, .string p.9] 39)
 have hmx : Try.prog.follows .mixedOrders = true := by kernel_rfl
 go_enter Try.func25, Try.ntmps25
 go_upto_region 1 with (fail)
 generalize w.alloc (.cells #[.int .i64 p.1, .string p.2, .string p.3, .string p.4, .string p.5, .int .i64 p.6.1, .string p.6.2, .string p.6.3, .string p.6.4, .string p.6.5, .string p.6.6, .bool p.6.7, .int .i64 p.7, .string p.8, .string p.9] 39) = w1 at *
 have hcs := jC15 r1
 have c0 := hcs.1; have c1 := hcs.2.1
 clear hcs
 have hst := store_new (ty := 39) (T := 39) w1 #[.int .i64 0, .string ⟨#[]⟩, .string ⟨#[]⟩, .string ⟨#[]⟩, .string ⟨#[]⟩, .int .i64 0, .string ⟨#[]⟩, .string ⟨#[]⟩, .string ⟨#[]⟩, .string ⟨#[]⟩, .string ⟨#[]⟩, .bool false, .int .i64 0, .string ⟨#[]⟩, .string ⟨#[]⟩] #[.int .i64 p.kind, .string p.id, .string ⟨#[]⟩, .string ⟨#[]⟩, .string ⟨#[]⟩, .int .i64 0, .string ⟨#[]⟩, .string ⟨#[]⟩, .string ⟨#[]⟩, .string ⟨#[]⟩, .string ⟨#[]⟩, .bool false, .int .i64 0, .string ⟨#[]⟩, .string ⟨#[]⟩] (by kernel_rfl) rfl (all_oneCell_toArray (ptL.one (Dg.barePt p.kind p.id)))
 have r3 := heap_alloc_new w1 (.cells #[.int .i64 p.kind, .string p.id, .string ⟨#[]⟩, .string ⟨#[]⟩, .string ⟨#[]⟩, .int .i64 0, .string ⟨#[]⟩, .string ⟨#[]⟩, .string ⟨#[]⟩, .string ⟨#[]⟩, .string ⟨#[]⟩, .bool false, .int .i64 0, .string ⟨#[]⟩, .string ⟨#[]⟩] 39)
 have hbn := Below.news (Below.refl w1.heap.size w1) (.cells #[.int .i64 p.kind, .string p.id, .string ⟨#[]⟩, .string ⟨#[]⟩, .string ⟨#[]⟩, .int .i64 0, .string ⟨#[]⟩, .string ⟨#[]⟩, .string ⟨#[]⟩, .string ⟨#[]⟩, .string ⟨#[]⟩, .bool false, .int .i64 0, .string ⟨#[]⟩, .string ⟨#[]⟩] 39)
 have r12 := iNext r1 hbn
 have hb2 := bnext hb1 hbn
 have hsz := lt_of_block r1
 go_upto_region 24 with (fail)
 clear hst c1 hbn hb1 r1
 obtain ⟨b3, hb3⟩ : ∃ b3, b3 = w1.heap.size := ⟨_, rfl⟩
 have HB3 := hide hb3
 rw [← hb3] at r3 hsz ⊢
 clear hb3
 generalize w1.alloc (.cells #[.int .i64 p.kind, .string p.id, .string ⟨#[]⟩, .string ⟨#[]⟩, .string ⟨#[]⟩, .int .i64 0, .string ⟨#[]⟩, .string ⟨#[]⟩, .string ⟨#[]⟩, .string ⟨#[]⟩, .string ⟨#[]⟩, .bool false, .int .i64 0, .string ⟨#[]⟩, .string ⟨#[]⟩] 39) = w2 at *
 clear HB3
 go_wp2
 go_ret
 exact ⟨rfl, hb2⟩
set_option maxRecDepth 100000 in
set_option maxHeartbeats 8000000 in
attribute [-go_sem] Instr.storeAt in
attribute [-go_sem] run_eql_struct in
theorem formed_3 (p : Dg.Pt) (hp : PtW p) (R1 R2 : Bool) (hR1 : sameP p { Dg.barePt p.kind p.id with number := p.number } = R1) (hR2 : Dg.validC [⟨1, Dg.sDd, Dg.nil8, p.number, Dg.nil8, Dg.nil8, false⟩] = R2) (k1 : (p.kind == 1) = false) (k2 : (p.kind == 2) = false) (k3 : (p.kind == 3) = true) (w : World) :
  Calls Try.prog 25 #[.agg #[.int .i64 p.1, .string p.2, .string p.3, .string p.4, .string p.5, .int .i64 p.6.1, .string p.6.2, .string p.6.3, .string p.6.4, .string p.6.5, .string p.6.6, .bool p.6.7, .int .i64 p.7, .string p.8, .string p.9]] w fun e w' => e = .returned (.bool (R1 && R2)) ∧ Below w.heap.size w w' := by
 have r1 := heap_alloc_new w (.cells #[.int .i64 p.1, .string p.2, .string p.3, .string p.4, .string p.5, .int .i64 p.6.1, .string p.6.2, .string p.6.3, .string p.6.4, .string p.6.5, .string p.6.6, .bool p.6.7, .int .i64 p.7, .string p.8, .string p.9] 39)
 have hb1 := Below.news (Below.refl w.heap.size w) (.cells #[.int .i64 p.1, .string p.2, .string p.3, .string p.4, .string p.5, .int .i64 p.6.1, .string p.6.2, .string p.6.3, .string p.6.4, .string p.6.5, .string p.6.6, .bool p.6.7, .int .i64 p.7, .string p.8, .string p.9] 39)
 have hmx : Try.prog.follows .mixedOrders = true := by kernel_rfl
 have HR1 := hide hR1; have HR2 := hide hR2; have HP := hide hp
 clear hR1 hR2 hp
 go_enter Try.func25, Try.ntmps25
 go_upto_region 1 with (fail)
 generalize w.alloc (.cells #[.int .i64 p.1, .string p.2, .string p.3, .string p.4, .string p.5, .int .i64 p.6.1, .string p.6.2, .string p.6.3, .string p.6.4, .string p.6.5, .string p.6.6, .bool p.6.7, .int .i64 p.7, .string p.8, .string p.9] 39) = w1 at *
 have hcs := jC15 r1
 have c0 := hcs.1; have c1 := hcs.2.1
 clear hcs
 have hst := store_new (ty := 39) (T := 39) w1 #[.int .i64 0, .string ⟨#[]⟩, .string ⟨#[]⟩, .string ⟨#[]⟩, .string ⟨#[]⟩, .int .i64 0, .string ⟨#[]⟩, .string ⟨#[]⟩, .string ⟨#[]⟩, .string ⟨#[]⟩, .string ⟨#[]⟩, .bool false, .int .i64 0, .string ⟨#[]⟩, .string ⟨#[]⟩] #[.int .i64 p.kind, .string p.id, .string ⟨#[]⟩, .string ⟨#[]⟩, .string ⟨#[]⟩, .int .i64 0, .string ⟨#[]⟩, .string ⟨#[]⟩, .string ⟨#[]⟩, .string ⟨#[]⟩, .string ⟨#[]⟩, .bool false, .int .i64 0, .string ⟨#[]⟩, .string ⟨#[]⟩] (by kernel_rfl) rfl (all_oneCell_toArray (ptL.one (Dg.barePt p.kind p.id)))
 have r3 := heap_alloc_new w1 (.cells #[.int .i64 p.kind, .string p.id, .string ⟨#[]⟩, .string ⟨#[]⟩, .string ⟨#[]⟩, .int .i64 0, .string ⟨#[]⟩, .string ⟨#[]⟩, .string ⟨#[]⟩, .string ⟨#[]⟩, .string ⟨#[]⟩, .bool false, .int .i64 0, .string ⟨#[]⟩, .string ⟨#[]⟩] 39)
 have hbn := Below.news (Below.refl w1.heap.size w1) (.cells #[.int .i64 p.kind, .string p.id, .string ⟨#[]⟩, .string ⟨#[]⟩, .string ⟨#[]⟩, .int .i64 0, .string ⟨#[]⟩, .string ⟨#[]⟩, .string ⟨#[]⟩, .string ⟨#[]⟩, .string ⟨#[]⟩, .bool false, .int .i64 0, .string ⟨#[]⟩, .string ⟨#[]⟩] 39)
 have r12 := iNext r1 hbn
 have hb2 := bnext hb1 hbn
 have hsz := lt_of_block r1
 go_upto_region 13 with (fail)
 clear hst c1 hbn hb1 r1
 obtain ⟨b3, hb3⟩ : ∃ b3, b3 = w1.heap.size := ⟨_, rfl⟩
 have HB3 := hide hb3
 rw [← hb3] at r3 hsz ⊢
 clear hb3
 generalize w1.alloc (.cells #[.int .i64 p.kind, .string p.id, .string ⟨#[]⟩, .string ⟨#[]⟩, .string ⟨#[]⟩, .int .i64 0, .string ⟨#[]⟩, .string ⟨#[]⟩, .string ⟨#[]⟩, .string ⟨#[]⟩, .string ⟨#[]⟩, .bool false, .int .i64 0, .string ⟨#[]⟩, .string ⟨#[]⟩] 39) = w2 at *
 clear HB3
 clear c0
 have c4 := (jC15 r12).2.2.2.2.1
 have hst := store_part (ty := 9) w2 b3 4 #[.int .i64 p.kind, .string p.id, .string ⟨#[]⟩, .string ⟨#[]⟩, .string ⟨#[]⟩, .int .i64 0, .string ⟨#[]⟩, .string ⟨#[]⟩, .string ⟨#[]⟩, .string ⟨#[]⟩, .string ⟨#[]⟩, .bool false, .int .i64 0, .string ⟨#[]⟩, .string ⟨#[]⟩] (.string p.number) #[.int .i64 p.kind, .string p.id, .string ⟨#[]⟩, .string ⟨#[]⟩, .string p.number, .int .i64 0, .string ⟨#[]⟩, .string ⟨#[]⟩, .string ⟨#[]⟩, .string ⟨#[]⟩, .string ⟨#[]⟩, .bool false, .int .i64 0, .string ⟨#[]⟩, .string ⟨#[]⟩] r3 infoStr1 (by show 4 + 1 ≤ 15; decide) (one_str _) rfl
 have q1 := (setRow_other w2 b3 w.heap.size #[.int .i64 p.kind, .string p.id, .string ⟨#[]⟩, .string ⟨#[]⟩, .string p.number, .int .i64 0, .string ⟨#[]⟩, .string ⟨#[]⟩, .string ⟨#[]⟩, .string ⟨#[]⟩, .string ⟨#[]⟩, .bool false, .int .i64 0, .string ⟨#[]⟩, .string ⟨#[]⟩] (by omega)).trans r12
 have q3 := setRow_heap w2 b3 _ #[.int .i64 p.kind, .string p.id, .string ⟨#[]⟩, .string ⟨#[]⟩, .string p.number, .int .i64 0, .string ⟨#[]⟩, .string ⟨#[]⟩, .string ⟨#[]⟩, .string ⟨#[]⟩, .string ⟨#[]⟩, .bool false, .int .i64 0, .string ⟨#[]⟩, .string ⟨#[]⟩] _ _ r3
 have qb := below_setRow hb2 (by omega) (g := b3) #[.int .i64 p.kind, .string p.id, .string ⟨#[]⟩, .string ⟨#[]⟩, .string p.number, .int .i64 0, .string ⟨#[]⟩, .string ⟨#[]⟩, .string ⟨#[]⟩, .string ⟨#[]⟩, .string ⟨#[]⟩, .bool false, .int .i64 0, .string ⟨#[]⟩, .string ⟨#[]⟩]
 go_upto_region 14 with (fail)
 clear c4
 clear hst r12 r3 hb2
 have r12 := q1
 have r3 := q3
 have hb2 := qb
 clear q1 q3 qb
 generalize w2.setRow b3 #[.int .i64 p.kind, .string p.id, .string ⟨#[]⟩, .string ⟨#[]⟩, .string p.number, .int .i64 0, .string ⟨#[]⟩, .string ⟨#[]⟩, .string ⟨#[]⟩, .string ⟨#[]⟩, .string ⟨#[]⟩, .bool false, .int .i64 0, .string ⟨#[]⟩, .string ⟨#[]⟩] = w3 at *
 have c4 := (jC15 r12).2.2.2.2.1
 have hpr : ∀ w, (binOp .eql 39 (.agg #[.int .i64 p.1, .string p.2, .string p.3, .string p.4, .string p.5, .int .i64 p.6.1, .string p.6.2, .string p.6.3, .string p.6.4, .string p.6.5, .string p.6.6, .bool p.6.7, .int .i64 p.7, .string p.8, .string p.9]) (.agg #[.int .i64 p.kind, .string p.id, .string ⟨#[]⟩, .string ⟨#[]⟩, .string p.number, .int .i64 0, .string ⟨#[]⟩, .string ⟨#[]⟩, .string ⟨#[]⟩, .string ⟨#[]⟩, .string ⟨#[]⟩, .bool false, .int .i64 0, .string ⟨#[]⟩, .string ⟨#[]⟩])).run Try.prog w = .ok (.bool R1) w := fun w => by rw [← HR1.out]; exact patch_run w p { Dg.barePt p.kind p.id with number := p.number }
 have hL1 := hide (range_of r12 0 [.int .i64 p.1, .string p.2, .string p.3, .string p.4, .string p.5, .int .i64 p.6.1, .string p.6.2, .string p.6.3, .string p.6.4, .string p.6.5, .string p.6.6, .bool p.6.7, .int .i64 p.7, .string p.8, .string p.9] rfl)
 have hL3 := hide (range_of r3 0 [.int .i64 p.kind, .string p.id, .string ⟨#[]⟩, .string ⟨#[]⟩, .string p.number, .int .i64 0, .string ⟨#[]⟩, .string ⟨#[]⟩, .string ⟨#[]⟩, .string ⟨#[]⟩, .string ⟨#[]⟩, .bool false, .int .i64 0, .string ⟨#[]⟩, .string ⟨#[]⟩] rfl)
 cases R1 with
 | false =>
  go_wp2_with (first | (with_reducible refine wpList_load_mid rfl 39 (.tmp 1) rfl w.heap.size 0 rfl _ _ hL1.out Try.underlying39 rfl (by kernel_rfl) ?_) | (with_reducible refine wpList_load_mid rfl 39 (.tmp 3) rfl b3 0 rfl _ _ hL3.out Try.underlying39 rfl (by kernel_rfl) ?_))
  go_ret
  exact ⟨rfl, hb2⟩
 | true =>
  go_wp2_with (first | (with_reducible refine wpList_load_mid rfl 39 (.tmp 1) rfl w.heap.size 0 rfl _ _ hL1.out Try.underlying39 rfl (by kernel_rfl) ?_) | (with_reducible refine wpList_load_mid rfl 39 (.tmp 3) rfl b3 0 rfl _ _ hL3.out Try.underlying39 rfl (by kernel_rfl) ?_))
  clear hL1 hL3 hpr c4
  refine (validF_of ⟨1, Dg.sDd, Dg.nil8, p.number, Dg.nil8, Dg.nil8, false⟩ ⟨by dsimp only; decide, by dsimp only; decide, by dsimp only; decide, by dsimp only; decide, HP.out.nz, by dsimp only; decide, by dsimp only; decide⟩ w3 R2 HR2.out).mono ?_
  rintro e w4 ⟨rfl, hb4⟩
  have hb5 := bnext hb2 hb4
  clear hb4 hb2
  go_wp2
  go_ret
  exact ⟨rfl, hb5⟩
set_option maxRecDepth 100000 in
set_option maxHeartbeats 8000000 in
attribute [-go_sem] Instr.storeAt in
attribute [-go_sem] run_eql_struct in
theorem formed_4 (p : Dg.Pt) (R1 : Bool) (hR1 : sameP p { Dg.barePt p.kind p.id with parent := p.parent, after := p.after } = R1) (k1 : (p.kind == 1) = false) (k2 : (p.kind == 2) = false) (k3 : (p.kind == 3) = false) (k4 : (p.kind == 4) = true) (w : World) :
  Calls Try.prog 25 #[.agg #[.int .i64 p.1, .string p.2, .string p.3, .string p.4, .string p.5, .int .i64 p.6.1, .string p.6.2, .string p.6.3, .string p.6.4, .string p.6.5, .string p.6.6, .bool p.6.7, .int .i64 p.7, .string p.8, .string p.9]] w fun e w' => e = .returned (.bool R1) ∧ Below w.heap.size w w' := by
 have r1 := heap_alloc_new w (.cells #[.int .i64 p.1, .string p.2, .string p.3, .string p.4, .string p.5, .int .i64 p.6.1, .string p.6.2, .string p.6.3, .string p.6.4, .string p.6.5, .string p.6.6, .bool p.6.7, .int .i64 p.7, .string p.8, .string p.9] 39)
 have hb1 := Below.news (Below.refl w.heap.size w) (.cells #[.int .i64 p.1, .string p.2, .string p.3, .string p.4, .string p.5, .int .i64 p.6.1, .string p.6.2, .string p.6.3, .string p.6.4, .string p.6.5, .string p.6.6, .bool p.6.7, .int .i64 p.7, .string p.8, .string p.9] 39)
 have hmx : Try.prog.follows .mixedOrders = true := by kernel_rfl
 have HR1 := hide hR1
 clear hR1
 go_enter Try.func25, Try.ntmps25
 go_upto_region 1 with (fail)
 generalize w.alloc (.cells #[.int .i64 p.1, .string p.2, .string p.3, .string p.4, .string p.5, .int .i64 p.6.1, .string p.6.2, .string p.6.3, .string p.6.4, .string p.6.5, .string p.6.6, .bool p.6.7, .int .i64 p.7, .string p.8, .string p.9] 39) = w1 at *
 have hcs := jC15 r1
 have c0 := hcs.1; have c1 := hcs.2.1
 clear hcs
 have hst := store_new (ty := 39) (T := 39) w1 #[.int .i64 0, .string ⟨#[]⟩, .string ⟨#[]⟩, .string ⟨#[]⟩, .string ⟨#[]⟩, .int .i64 0, .string ⟨#[]⟩, .string ⟨#[]⟩, .string ⟨#[]⟩, .string ⟨#[]⟩, .string ⟨#[]⟩, .bool false, .int .i64 0, .string ⟨#[]⟩, .string ⟨#[]⟩] #[.int .i64 p.kind, .string p.id, .string ⟨#[]⟩, .string ⟨#[]⟩, .string ⟨#[]⟩, .int .i64 0, .string ⟨#[]⟩, .string ⟨#[]⟩, .string ⟨#[]⟩, .string ⟨#[]⟩, .string ⟨#[]⟩, .bool false, .int .i64 0, .string ⟨#[]⟩, .string ⟨#[]⟩] (by kernel_rfl) rfl (all_oneCell_toArray (ptL.one (Dg.barePt p.kind p.id)))
 have r3 := heap_alloc_new w1 (.cells #[.int .i64 p.kind, .string p.id, .string ⟨#[]⟩, .string ⟨#[]⟩, .string ⟨#[]⟩, .int .i64 0, .string ⟨#[]⟩, .string ⟨#[]⟩, .string ⟨#[]⟩, .string ⟨#[]⟩, .string ⟨#[]⟩, .bool false, .int .i64 0, .string ⟨#[]⟩, .string ⟨#[]⟩] 39)
 have hbn := Below.news (Below.refl w1.heap.size w1) (.cells #[.int .i64 p.kind, .string p.id, .string ⟨#[]⟩, .string ⟨#[]⟩, .string ⟨#[]⟩, .int .i64 0, .string ⟨#[]⟩, .string ⟨#[]⟩, .string ⟨#[]⟩, .string ⟨#[]⟩, .string ⟨#[]⟩, .bool false, .int .i64 0, .string ⟨#[]⟩, .string ⟨#[]⟩] 39)
 have r12 := iNext r1 hbn
 have hb2 := bnext hb1 hbn
 have hsz := lt_of_block r1
 go_upto_region 16 with (fail)
 clear hst c1 hbn hb1 r1
 obtain ⟨b3, hb3⟩ : ∃ b3, b3 = w1.heap.size := ⟨_, rfl⟩
 have HB3 := hide hb3
 rw [← hb3] at r3 hsz ⊢
 clear hb3
 generalize w1.alloc (.cells #[.int .i64 p.kind, .string p.id, .string ⟨#[]⟩, .string ⟨#[]⟩, .string ⟨#[]⟩, .int .i64 0, .string ⟨#[]⟩, .string ⟨#[]⟩, .string ⟨#[]⟩, .string ⟨#[]⟩, .string ⟨#[]⟩, .bool false, .int .i64 0, .string ⟨#[]⟩, .string ⟨#[]⟩] 39) = w2 at *
 clear HB3
 clear c0
 refine wp_region_noPanic ?_
 refine wp_region_L (fun X => X.heap[w.heap.size]? = some (.cells #[.int .i64 p.1, .string p.2, .string p.3, .string p.4, .string p.5, .int .i64 p.6.1, .string p.6.2, .string p.6.3, .string p.6.4, .string p.6.5, .string p.6.6, .bool p.6.7, .int .i64 p.7, .string p.8, .string p.9] 39 (0, 0))) 8 hmx ?_
 have hdr := (Below.refl w2.heap.size w2).drew
 have hS1 : (fun X : World => X.heap[w.heap.size]? = some (.cells #[.int .i64 p.1, .string p.2, .string p.3, .string p.4, .string p.5, .int .i64 p.6.1, .string p.6.2, .string p.6.3, .string p.6.4, .string p.6.5, .string p.6.6, .bool p.6.7, .int .i64 p.7, .string p.8, .string p.9] 39 (0, 0))) w2.drew := iNext r12 hdr
 have q3 := iNext r3 hdr
 have qb := bnext hb2 hdr
 clear hdr r12 r3 hb2
 have r3 := q3
 have hb2 := qb
 clear q3 qb
 generalize w2.drew = u0 at *
 refine tkY 0 10 ?_ rfl ?_ hS1 ?_
 rotate_left
 ·intro wS hS; go_simp; (try with_reducible rfl)
 simp only [Act.put, pu1, pu2, pu3, pu4, pu5, pu6]
 refine tkY 1 10 ?_ rfl ?_ hS1 ?_
 rotate_left
 ·intro wS hS; have hcs := jC15 hS; have c2 := hcs.2.2.1; have c3 := hcs.2.2.2.1; clear hcs; go_simp; (try with_reducible rfl)
 simp only [Act.put, pu1, pu2, pu3, pu4, pu5, pu6]
 refine tkY 2 10 ?_ rfl ?_ hS1 ?_
 rotate_left
 ·intro wS hS; go_simp; (try with_reducible rfl)
 simp only [Act.put, pu1, pu2, pu3, pu4, pu5, pu6]
 refine tkY 3 10 ?_ rfl ?_ hS1 ?_
 rotate_left
 ·intro wS hS; have hcs := jC15 hS; have c2 := hcs.2.2.1; have c3 := hcs.2.2.2.1; clear hcs; go_simp; (try with_reducible rfl)
 simp only [Act.put, pu1, pu2, pu3, pu4, pu5, pu6]
 refine onY 4 (by rfl) fun K hK => ?_
 go_simp
 refine hK.out _ _ (Or.inr hS1) ?_
 clear hK K
 try simp only [Act.put, pu1, pu2, pu3, pu4, pu5, pu6]
 refine onY 5 (by rfl) fun K hK => ?_
 have r12 := hS1
 have hst := store_part (ty := 9) u0 b3 2 #[.int .i64 p.kind, .string p.id, .string ⟨#[]⟩, .string ⟨#[]⟩, .string ⟨#[]⟩, .int .i64 0, .string ⟨#[]⟩, .string ⟨#[]⟩, .string ⟨#[]⟩, .string ⟨#[]⟩, .string ⟨#[]⟩, .bool false, .int .i64 0, .string ⟨#[]⟩, .string ⟨#[]⟩] (.string p.parent) #[.int .i64 p.kind, .string p.id, .string p.parent, .string ⟨#[]⟩, .string ⟨#[]⟩, .int .i64 0, .string ⟨#[]⟩, .string ⟨#[]⟩, .string ⟨#[]⟩, .string ⟨#[]⟩, .string ⟨#[]⟩, .bool false, .int .i64 0, .string ⟨#[]⟩, .string ⟨#[]⟩] r3 infoStr1 (by show 2 + 1 ≤ 15; decide) (one_str _) rfl
 have q1 := (setRow_other u0 b3 w.heap.size #[.int .i64 p.kind, .string p.id, .string p.parent, .string ⟨#[]⟩, .string ⟨#[]⟩, .int .i64 0, .string ⟨#[]⟩, .string ⟨#[]⟩, .string ⟨#[]⟩, .string ⟨#[]⟩, .string ⟨#[]⟩, .bool false, .int .i64 0, .string ⟨#[]⟩, .string ⟨#[]⟩] (by omega)).trans r12
 have q3 := setRow_heap u0 b3 _ #[.int .i64 p.kind, .string p.id, .string p.parent, .string ⟨#[]⟩, .string ⟨#[]⟩, .int .i64 0, .string ⟨#[]⟩, .string ⟨#[]⟩, .string ⟨#[]⟩, .string ⟨#[]⟩, .string ⟨#[]⟩, .bool false, .int .i64 0, .string ⟨#[]⟩, .string ⟨#[]⟩] _ _ r3
 have qb := below_setRow hb2 (by omega) (g := b3) #[.int .i64 p.kind, .string p.id, .string p.parent, .string ⟨#[]⟩, .string ⟨#[]⟩, .int .i64 0, .string ⟨#[]⟩, .string ⟨#[]⟩, .string ⟨#[]⟩, .string ⟨#[]⟩, .string ⟨#[]⟩, .bool false, .int .i64 0, .string ⟨#[]⟩, .string ⟨#[]⟩]
 go_simp
 clear hS1
 clear hst r12 r3 hb2
 have r12 := q1
 have r3 := q3
 have hb2 := qb
 clear q1 q3 qb
 generalize u0.setRow b3 #[.int .i64 p.kind, .string p.id, .string p.parent, .string ⟨#[]⟩, .string ⟨#[]⟩, .int .i64 0, .string ⟨#[]⟩, .string ⟨#[]⟩, .string ⟨#[]⟩, .string ⟨#[]⟩, .string ⟨#[]⟩, .bool false, .int .i64 0, .string ⟨#[]⟩, .string ⟨#[]⟩] = u1 at *
 have hS1 := r12
 clear r12
 refine hK.out _ _ (Or.inr hS1) ?_
 clear hK K
 try simp only [Act.put, pu1, pu2, pu3, pu4, pu5, pu6]
 refine onY 6 (by rfl) fun K hK => ?_
 go_simp
 refine hK.out _ _ (Or.inr hS1) ?_
 clear hK K
 try simp only [Act.put, pu1, pu2, pu3, pu4, pu5, pu6]
 refine onY 7 (by rfl) fun K hK => ?_
 have r12 := hS1
 have hst := store_part (ty := 9) u1 b3 3 #[.int .i64 p.kind, .string p.id, .string p.parent, .string ⟨#[]⟩, .string ⟨#[]⟩, .int .i64 0, .string ⟨#[]⟩, .string ⟨#[]⟩, .string ⟨#[]⟩, .string ⟨#[]⟩, .string ⟨#[]⟩, .bool false, .int .i64 0, .string ⟨#[]⟩, .string ⟨#[]⟩] (.string p.after) #[.int .i64 p.kind, .string p.id, .string p.parent, .string p.after, .string ⟨#[]⟩, .int .i64 0, .string ⟨#[]⟩, .string ⟨#[]⟩, .string ⟨#[]⟩, .string ⟨#[]⟩, .string ⟨#[]⟩, .bool false, .int .i64 0, .string ⟨#[]⟩, .string ⟨#[]⟩] r3 infoStr1 (by show 3 + 1 ≤ 15; decide) (one_str _) rfl
 have q1 := (setRow_other u1 b3 w.heap.size #[.int .i64 p.kind, .string p.id, .string p.parent, .string p.after, .string ⟨#[]⟩, .int .i64 0, .string ⟨#[]⟩, .string ⟨#[]⟩, .string ⟨#[]⟩, .string ⟨#[]⟩, .string ⟨#[]⟩, .bool false, .int .i64 0, .string ⟨#[]⟩, .string ⟨#[]⟩] (by omega)).trans r12
 have q3 := setRow_heap u1 b3 _ #[.int .i64 p.kind, .string p.id, .string p.parent, .string p.after, .string ⟨#[]⟩, .int .i64 0, .string ⟨#[]⟩, .string ⟨#[]⟩, .string ⟨#[]⟩, .string ⟨#[]⟩, .string ⟨#[]⟩, .bool false, .int .i64 0, .string ⟨#[]⟩, .string ⟨#[]⟩] _ _ r3
 have qb := below_setRow hb2 (by omega) (g := b3) #[.int .i64 p.kind, .string p.id, .string p.parent, .string p.after, .string ⟨#[]⟩, .int .i64 0, .string ⟨#[]⟩, .string ⟨#[]⟩, .string ⟨#[]⟩, .string ⟨#[]⟩, .string ⟨#[]⟩, .bool false, .int .i64 0, .string ⟨#[]⟩, .string ⟨#[]⟩]
 go_simp
 clear hS1
 clear hst r12 r3 hb2
 have r12 := q1
 have r3 := q3
 have hb2 := qb
 clear q1 q3 qb
 generalize u1.setRow b3 #[.int .i64 p.kind, .string p.id, .string p.parent, .string p.after, .string ⟨#[]⟩, .int .i64 0, .string ⟨#[]⟩, .string ⟨#[]⟩, .string ⟨#[]⟩, .string ⟨#[]⟩, .string ⟨#[]⟩, .bool false, .int .i64 0, .string ⟨#[]⟩, .string ⟨#[]⟩] = u2 at *
 have hS1 := r12
 clear r12
 refine hK.out _ _ (Or.inr hS1) ?_
 clear hK K
 try simp only [Act.put, pu1, pu2, pu3, pu4, pu5, pu6]
 refine dnY ?_
 have r12 := hS1
 clear hS1
 have hpr : ∀ w, (binOp .eql 39 (.agg #[.int .i64 p.1, .string p.2, .string p.3, .string p.4, .string p.5, .int .i64 p.6.1, .string p.6.2, .string p.6.3, .string p.6.4, .string p.6.5, .string p.6.6, .bool p.6.7, .int .i64 p.7, .string p.8, .string p.9]) (.agg #[.int .i64 p.kind, .string p.id, .string p.parent, .string p.after, .string ⟨#[]⟩, .int .i64 0, .string ⟨#[]⟩, .string ⟨#[]⟩, .string ⟨#[]⟩, .string ⟨#[]⟩, .string ⟨#[]⟩, .bool false, .int .i64 0, .string ⟨#[]⟩, .string ⟨#[]⟩])).run Try.prog w = .ok (.bool R1) w := fun w => by rw [← HR1.out]; exact patch_run w p { Dg.barePt p.kind p.id with parent := p.parent, after := p.after }
 have hL1 := hide (range_of r12 0 [.int .i64 p.1, .string p.2, .string p.3, .string p.4, .string p.5, .int .i64 p.6.1, .string p.6.2, .string p.6.3, .string p.6.4, .string p.6.5, .string p.6.6, .bool p.6.7, .int .i64 p.7, .string p.8, .string p.9] rfl)
 have hL3 := hide (range_of r3 0 [.int .i64 p.kind, .string p.id, .string p.parent, .string p.after, .string ⟨#[]⟩, .int .i64 0, .string ⟨#[]⟩, .string ⟨#[]⟩, .string ⟨#[]⟩, .string ⟨#[]⟩, .string ⟨#[]⟩, .bool false, .int .i64 0, .string ⟨#[]⟩, .string ⟨#[]⟩] rfl)
 go_wp2_with (first | (with_reducible refine wpList_load_mid rfl 39 (.tmp 1) rfl w.heap.size 0 rfl _ _ hL1.out Try.underlying39 rfl (by kernel_rfl) ?_) | (with_reducible refine wpList_load_mid rfl 39 (.tmp 3) rfl b3 0 rfl _ _ hL3.out Try.underlying39 rfl (by kernel_rfl) ?_))
 go_ret
 exact ⟨rfl, hb2⟩
set_option maxRecDepth 100000 in
set_option maxHeartbeats 8000000 in
attribute [-go_sem] Instr.storeAt in
attribute [-go_sem] run_eql_struct in
theorem formed_7 (p : Dg.Pt) (R1 : Bool) (hR1 : sameP p { Dg.barePt p.kind p.id with item := { Dg.zeroI with north := p.item.north, south := p.item.south } } = R1) (k1 : (p.kind == 1) = false) (k2 : (p.kind == 2) = false) (k3 : (p.kind == 3) = false) (k4 : (p.kind == 4) = false) (k5 : (p.kind == 5) = false) (k6 : (p.kind == 6) = false) (k7 : (p.kind == 7) = true) (w : World) :
  Calls Try.prog 25 #[.agg #[.int .i64 p.1, .string p.2, .string p.3, .string p.4, .string p.5, .int .i64 p.6.1, .string p.6.2, .string p.6.3, .string p.6.4, .string p.6.5, .string p.6.6, .bool p.6.7, .int .i64 p.7, .string p.8, .string p.9]] w fun e w' => e = .returned (.bool R1) ∧ Below w.heap.size w w' := by
 have r1 := heap_alloc_new w (.cells #[.int .i64 p.1, .string p.2, .string p.3, .string p.4, .string p.5, .int .i64 p.6.1, .string p.6.2, .string p.6.3, .string p.6.4, .string p.6.5, .string p.6.6, .bool p.6.7, .int .i64 p.7, .string p.8, .string p.9] 39)
 have hb1 := Below.news (Below.refl w.heap.size w) (.cells #[.int .i64 p.1, .string p.2, .string p.3, .string p.4, .string p.5, .int .i64 p.6.1, .string p.6.2, .string p.6.3, .string p.6.4, .string p.6.5, .string p.6.6, .bool p.6.7, .int .i64 p.7, .string p.8, .string p.9] 39)
 have hmx : Try.prog.follows .mixedOrders = true := by kernel_rfl
 have HR1 := hide hR1
 clear hR1
 go_enter Try.func25, Try.ntmps25
 go_upto_region 1 with (fail)
 generalize w.alloc (.cells #[.int .i64 p.1, .string p.2, .string p.3, .string p.4, .string p.5, .int .i64 p.6.1, .string p.6.2, .string p.6.3, .string p.6.4, .string p.6.5, .string p.6.6, .bool p.6.7, .int .i64 p.7, .string p.8, .string p.9] 39) = w1 at *
 have hcs := jC15 r1
 have c0 := hcs.1; have c1 := hcs.2.1
 clear hcs
 have hst := store_new (ty := 39) (T := 39) w1 #[.int .i64 0, .string ⟨#[]⟩, .string ⟨#[]⟩, .string ⟨#[]⟩, .string ⟨#[]⟩, .int .i64 0, .string ⟨#[]⟩, .string ⟨#[]⟩, .string ⟨#[]⟩, .string ⟨#[]⟩, .string ⟨#[]⟩, .bool false, .int .i64 0, .string ⟨#[]⟩, .string ⟨#[]⟩] #[.int .i64 p.kind, .string p.id, .string ⟨#[]⟩, .string ⟨#[]⟩, .string ⟨#[]⟩, .int .i64 0, .string ⟨#[]⟩, .string ⟨#[]⟩, .string ⟨#[]⟩, .string ⟨#[]⟩, .string ⟨#[]⟩, .bool false, .int .i64 0, .string ⟨#[]⟩, .string ⟨#[]⟩] (by kernel_rfl) rfl (all_oneCell_toArray (ptL.one (Dg.barePt p.kind p.id)))
 have r3 := heap_alloc_new w1 (.cells #[.int .i64 p.kind, .string p.id, .string ⟨#[]⟩, .string ⟨#[]⟩, .string ⟨#[]⟩, .int .i64 0, .string ⟨#[]⟩, .string ⟨#[]⟩, .string ⟨#[]⟩, .string ⟨#[]⟩, .string ⟨#[]⟩, .bool false, .int .i64 0, .string ⟨#[]⟩, .string ⟨#[]⟩] 39)
 have hbn := Below.news (Below.refl w1.heap.size w1) (.cells #[.int .i64 p.kind, .string p.id, .string ⟨#[]⟩, .string ⟨#[]⟩, .string ⟨#[]⟩, .int .i64 0, .string ⟨#[]⟩, .string ⟨#[]⟩, .string ⟨#[]⟩, .string ⟨#[]⟩, .string ⟨#[]⟩, .bool false, .int .i64 0, .string ⟨#[]⟩, .string ⟨#[]⟩] 39)
 have r12 := iNext r1 hbn
 have hb2 := bnext hb1 hbn
 have hsz := lt_of_block r1
 go_upto_region 22 with (fail)
 clear hst c1 hbn hb1 r1
 obtain ⟨b3, hb3⟩ : ∃ b3, b3 = w1.heap.size := ⟨_, rfl⟩
 have HB3 := hide hb3
 rw [← hb3] at r3 hsz ⊢
 clear hb3
 generalize w1.alloc (.cells #[.int .i64 p.kind, .string p.id, .string ⟨#[]⟩, .string ⟨#[]⟩, .string ⟨#[]⟩, .int .i64 0, .string ⟨#[]⟩, .string ⟨#[]⟩, .string ⟨#[]⟩, .string ⟨#[]⟩, .string ⟨#[]⟩, .bool false, .int .i64 0, .string ⟨#[]⟩, .string ⟨#[]⟩] 39) = w2 at *
 clear HB3
 clear c0
 refine wp_region_noPanic ?_
 refine wp_region_L (fun X => X.heap[w.heap.size]? = some (.cells #[.int .i64 p.1, .string p.2, .string p.3, .string p.4, .string p.5, .int .i64 p.6.1, .string p.6.2, .string p.6.3, .string p.6.4, .string p.6.5, .string p.6.6, .bool p.6.7, .int .i64 p.7, .string p.8, .string p.9] 39 (0, 0))) 12 hmx ?_
 have hdr := (Below.refl w2.heap.size w2).drew
 have hS1 : (fun X : World => X.heap[w.heap.size]? = some (.cells #[.int .i64 p.1, .string p.2, .string p.3, .string p.4, .string p.5, .int .i64 p.6.1, .string p.6.2, .string p.6.3, .string p.6.4, .string p.6.5, .string p.6.6, .bool p.6.7, .int .i64 p.7, .string p.8, .string p.9] 39 (0, 0))) w2.drew := iNext r12 hdr
 have q3 := iNext r3 hdr
 have qb := bnext hb2 hdr
 clear hdr r12 r3 hb2
 have r3 := q3
 have hb2 := qb
 clear q3 qb
 generalize w2.drew = u0 at *
 refine tkY 0 14 ?_ rfl ?_ hS1 ?_
 rotate_left
 ·intro wS hS; go_simp; (try with_reducible rfl)
 simp only [Act.put, pu1, pu2, pu3, pu4, pu5, pu6]
 refine tkY 1 14 ?_ rfl ?_ hS1 ?_
 rotate_left
 ·intro wS hS; go_simp; (try with_reducible rfl)
 simp only [Act.put, pu1, pu2, pu3, pu4, pu5, pu6]
 refine tkY 2 14 ?_ rfl ?_ hS1 ?_
 rotate_left
 ·intro wS hS; have hcs := jC15 hS; have c9 := hcs.2.2.2.2.2.2.2.2.2.1; have c10 := hcs.2.2.2.2.2.2.2.2.2.2.1; clear hcs; go_simp; (try with_reducible rfl)
 simp only [Act.put, pu1, pu2, pu3, pu4, pu5, pu6]
 refine tkY 3 14 ?_ rfl ?_ hS1 ?_
 rotate_left
 ·intro wS hS; go_simp; (try with_reducible rfl)
 simp only [Act.put, pu1, pu2, pu3, pu4, pu5, pu6]
 refine tkY 4 14 ?_ rfl ?_ hS1 ?_
 rotate_left
 ·intro wS hS; go_simp; (try with_reducible rfl)
 simp only [Act.put, pu1, pu2, pu3, pu4, pu5, pu6]
 refine tkY 5 14 ?_ rfl ?_ hS1 ?_
 rotate_left
 ·intro wS hS; have hcs := jC15 hS; have c9 := hcs.2.2.2.2.2.2.2.2.2.1; have c10 := hcs.2.2.2.2.2.2.2.2.2.2.1; clear hcs; go_simp; (try with_reducible rfl)
 simp only [Act.put, pu1, pu2, pu3, pu4, pu5, pu6]
 refine onY 6 (by rfl) fun K hK => ?_
 go_simp
 refine hK.out _ _ (Or.inr hS1) ?_
 clear hK K
 try simp only [Act.put, pu1, pu2, pu3, pu4, pu5, pu6]
 refine onY 7 (by rfl) fun K hK => ?_
 go_simp
 refine hK.out _ _ (Or.inr hS1) ?_
 clear hK K
 try simp only [Act.put, pu1, pu2, pu3, pu4, pu5, pu6]
 refine onY 8 (by rfl) fun K hK => ?_
 have r12 := hS1
 have hst := store_part (ty := 9) u0 b3 9 #[.int .i64 p.kind, .string p.id, .string ⟨#[]⟩, .string ⟨#[]⟩, .string ⟨#[]⟩, .int .i64 0, .string ⟨#[]⟩, .string ⟨#[]⟩, .string ⟨#[]⟩, .string ⟨#[]⟩, .string ⟨#[]⟩, .bool false, .int .i64 0, .string ⟨#[]⟩, .string ⟨#[]⟩] (.string p.item.north) #[.int .i64 p.kind, .string p.id, .string ⟨#[]⟩, .string ⟨#[]⟩, .string ⟨#[]⟩, .int .i64 0, .string ⟨#[]⟩, .string ⟨#[]⟩, .string ⟨#[]⟩, .string p.item.north, .string ⟨#[]⟩, .bool false, .int .i64 0, .string ⟨#[]⟩, .string ⟨#[]⟩] r3 infoStr1 (by show 9 + 1 ≤ 15; decide) (one_str _) rfl
 have q1 := (setRow_other u0 b3 w.heap.size #[.int .i64 p.kind, .string p.id, .string ⟨#[]⟩, .string ⟨#[]⟩, .string ⟨#[]⟩, .int .i64 0, .string ⟨#[]⟩, .string ⟨#[]⟩, .string ⟨#[]⟩, .string p.item.north, .string ⟨#[]⟩, .bool false, .int .i64 0, .string ⟨#[]⟩, .string ⟨#[]⟩] (by omega)).trans r12
 have q3 := setRow_heap u0 b3 _ #[.int .i64 p.kind, .string p.id, .string ⟨#[]⟩, .string ⟨#[]⟩, .string ⟨#[]⟩, .int .i64 0, .string ⟨#[]⟩, .string ⟨#[]⟩, .string ⟨#[]⟩, .string p.item.north, .string ⟨#[]⟩, .bool false, .int .i64 0, .string ⟨#[]⟩, .string ⟨#[]⟩] _ _ r3
 have qb := below_setRow hb2 (by omega) (g := b3) #[.int .i64 p.kind, .string p.id, .string ⟨#[]⟩, .string ⟨#[]⟩, .string ⟨#[]⟩, .int .i64 0, .string ⟨#[]⟩, .string ⟨#[]⟩, .string ⟨#[]⟩, .string p.item.north, .string ⟨#[]⟩, .bool false, .int .i64 0, .string ⟨#[]⟩, .string ⟨#[]⟩]
 go_simp
 clear hS1
 clear hst r12 r3 hb2
 have r12 := q1
 have r3 := q3
 have hb2 := qb
 clear q1 q3 qb
 generalize u0.setRow b3 #[.int .i64 p.kind, .string p.id, .string ⟨#[]⟩, .string ⟨#[]⟩, .string ⟨#[]⟩, .int .i64 0, .string ⟨#[]⟩, .string ⟨#[]⟩, .string ⟨#[]⟩, .string p.item.north, .string ⟨#[]⟩, .bool false, .int .i64 0, .string ⟨#[]⟩, .string ⟨#[]⟩] = u1 at *
 have hS1 := r12
 clear r12
 refine hK.out _ _ (Or.inr hS1) ?_
 clear hK K
 try simp only [Act.put, pu1, pu2, pu3, pu4, pu5, pu6]
 refine onY 9 (by rfl) fun K hK => ?_
 go_simp
 refine hK.out _ _ (Or.inr hS1) ?_
 clear hK K
 try simp only [Act.put, pu1, pu2, pu3, pu4, pu5, pu6]
 refine onY 10 (by rfl) fun K hK => ?_
 go_simp
 refine hK.out _ _ (Or.inr hS1) ?_
 clear hK K
 try simp only [Act.put, pu1, pu2, pu3, pu4, pu5, pu6]
 refine onY 11 (by rfl) fun K hK => ?_
 have r12 := hS1
 have hst := store_part (ty := 9) u1 b3 10 #[.int .i64 p.kind, .string p.id, .string ⟨#[]⟩, .string ⟨#[]⟩, .string ⟨#[]⟩, .int .i64 0, .string ⟨#[]⟩, .string ⟨#[]⟩, .string ⟨#[]⟩, .string p.item.north, .string ⟨#[]⟩, .bool false, .int .i64 0, .string ⟨#[]⟩, .string ⟨#[]⟩] (.string p.item.south) #[.int .i64 p.kind, .string p.id, .string ⟨#[]⟩, .string ⟨#[]⟩, .string ⟨#[]⟩, .int .i64 0, .string ⟨#[]⟩, .string ⟨#[]⟩, .string ⟨#[]⟩, .string p.item.north, .string p.item.south, .bool false, .int .i64 0, .string ⟨#[]⟩, .string ⟨#[]⟩] r3 infoStr1 (by show 10 + 1 ≤ 15; decide) (one_str _) rfl
 have q1 := (setRow_other u1 b3 w.heap.size #[.int .i64 p.kind, .string p.id, .string ⟨#[]⟩, .string ⟨#[]⟩, .string ⟨#[]⟩, .int .i64 0, .string ⟨#[]⟩, .string ⟨#[]⟩, .string ⟨#[]⟩, .string p.item.north, .string p.item.south, .bool false, .int .i64 0, .string ⟨#[]⟩, .string ⟨#[]⟩] (by omega)).trans r12
 have q3 := setRow_heap u1 b3 _ #[.int .i64 p.kind, .string p.id, .string ⟨#[]⟩, .string ⟨#[]⟩, .string ⟨#[]⟩, .int .i64 0, .string ⟨#[]⟩, .string ⟨#[]⟩, .string ⟨#[]⟩, .string p.item.north, .string p.item.south, .bool false, .int .i64 0, .string ⟨#[]⟩, .string ⟨#[]⟩] _ _ r3
 have qb := below_setRow hb2 (by omega) (g := b3) #[.int .i64 p.kind, .string p.id, .string ⟨#[]⟩, .string ⟨#[]⟩, .string ⟨#[]⟩, .int .i64 0, .string ⟨#[]⟩, .string ⟨#[]⟩, .string ⟨#[]⟩, .string p.item.north, .string p.item.south, .bool false, .int .i64 0, .string ⟨#[]⟩, .string ⟨#[]⟩]
 go_simp
 clear hS1
 clear hst r12 r3 hb2
 have r12 := q1
 have r3 := q3
 have hb2 := qb
 clear q1 q3 qb
 generalize u1.setRow b3 #[.int .i64 p.kind, .string p.id, .string ⟨#[]⟩, .string ⟨#[]⟩, .string ⟨#[]⟩, .int .i64 0, .string ⟨#[]⟩, .string ⟨#[]⟩, .string ⟨#[]⟩, .string p.item.north, .string p.item.south, .bool false, .int .i64 0, .string ⟨#[]⟩, .string ⟨#[]⟩] = u2 at *
 have hS1 := r12
 clear r12
 refine hK.out _ _ (Or.inr hS1) ?_
 clear hK K
 try simp only [Act.put, pu1, pu2, pu3, pu4, pu5, pu6]
 refine dnY ?_
 have r12 := hS1
 clear hS1
 have hpr : ∀ w, (binOp .eql 39 (.agg #[.int .i64 p.1, .string p.2, .string p.3, .string p.4, .string p.5, .int .i64 p.6.1, .string p.6.2, .string p.6.3, .string p.6.4, .string p.6.5, .string p.6.6, .bool p.6.7, .int .i64 p.7, .string p.8, .string p.9]) (.agg #[.int .i64 p.kind, .string p.id, .string ⟨#[]⟩, .string ⟨#[]⟩, .string ⟨#[]⟩, .int .i64 0, .string ⟨#[]⟩, .string ⟨#[]⟩, .string ⟨#[]⟩, .string p.item.north, .string p.item.south, .bool false, .int .i64 0, .string ⟨#[]⟩, .string ⟨#[]⟩])).run Try.prog w = .ok (.bool R1) w := fun w => by rw [← HR1.out]; exact patch_run w p { Dg.barePt p.kind p.id with item := { Dg.zeroI with north := p.item.north, south := p.item.south } }
 have hL1 := hide (range_of r12 0 [.int .i64 p.1, .string p.2, .string p.3, .string p.4, .string p.5, .int .i64 p.6.1, .string p.6.2, .string p.6.3, .string p.6.4, .string p.6.5, .string p.6.6, .bool p.6.7, .int .i64 p.7, .string p.8, .string p.9] rfl)
 have hL3 := hide (range_of r3 0 [.int .i64 p.kind, .string p.id, .string ⟨#[]⟩, .string ⟨#[]⟩, .string ⟨#[]⟩, .int .i64 0, .string ⟨#[]⟩, .string ⟨#[]⟩, .string ⟨#[]⟩, .string p.item.north, .string p.item.south, .bool false, .int .i64 0, .string ⟨#[]⟩, .string ⟨#[]⟩] rfl)
 go_wp2_with (first | (with_reducible refine wpList_load_mid rfl 39 (.tmp 1) rfl w.heap.size 0 rfl _ _ hL1.out Try.underlying39 rfl (by kernel_rfl) ?_) | (with_reducible refine wpList_load_mid rfl 39 (.tmp 3) rfl b3 0 rfl _ _ hL3.out Try.underlying39 rfl (by kernel_rfl) ?_))
 go_ret
 exact ⟨rfl, hb2⟩
set_option maxRecDepth 100000 in
set_option maxHeartbeats 8000000 in
attribute [-go_sem] Instr.storeAt in
attribute [-go_sem] run_eql_struct in
theorem formed_1 (p : Dg.Pt) (hp : PtW p) (R1 R2 : Bool) (hR1 : sameP p { Dg.barePt p.kind p.id with parent := p.parent, after := p.after, item := p.item } = R1) (hR2 : Dg.validC [{ p.item with parent := Dg.nil8 }] = R2) (E1 E2 : Bool) (hE1 : (p.item.id.toList == p.id.toList) = E1) (hE2 : (p.item.parent.toList == p.parent.toList) = E2) (k1 : (p.kind == 1) = true) (w : World) :
  Calls Try.prog 25 #[.agg #[.int .i64 p.1, .string p.2, .string p.3, .string p.4, .string p.5, .int .i64 p.6.1, .string p.6.2, .string p.6.3, .string p.6.4, .string p.6.5, .string p.6.6, .bool p.6.7, .int .i64 p.7, .string p.8, .string p.9]] w fun e w' => e = .returned (.bool (R1 && (E1 && (E2 && R2)))) ∧ Below w.heap.size w w' := by
 have r1 := heap_alloc_new w (.cells #[.int .i64 p.1, .string p.2, .string p.3, .string p.4, .string p.5, .int .i64 p.6.1, .string p.6.2, .string p.6.3, .string p.6.4, .string p.6.5, .string p.6.6, .bool p.6.7, .int .i64 p.7, .string p.8, .string p.9] 39)
 have hb1 := Below.news (Below.refl w.heap.size w) (.cells #[.int .i64 p.1, .string p.2, .string p.3, .string p.4, .string p.5, .int .i64 p.6.1, .string p.6.2, .string p.6.3, .string p.6.4, .string p.6.5, .string p.6.6, .bool p.6.7, .int .i64 p.7, .string p.8, .string p.9] 39)
 have hmx : Try.prog.follows .mixedOrders = true := by kernel_rfl
 have HR1 := hide hR1; have HR2 := hide hR2; have HP := hide hp
 clear hR1 hR2 hp
 go_enter Try.func25, Try.ntmps25
 go_upto_region 1 with (fail)
 generalize w.alloc (.cells #[.int .i64 p.1, .string p.2, .string p.3, .string p.4, .string p.5, .int .i64 p.6.1, .string p.6.2, .string p.6.3, .string p.6.4, .string p.6.5, .string p.6.6, .bool p.6.7, .int .i64 p.7, .string p.8, .string p.9] 39) = w1 at *
 have hcs := jC15 r1
 have c0 := hcs.1; have c1 := hcs.2.1
 clear hcs
 have hst := store_new (ty := 39) (T := 39) w1 #[.int .i64 0, .string ⟨#[]⟩, .string ⟨#[]⟩, .string ⟨#[]⟩, .string ⟨#[]⟩, .int .i64 0, .string ⟨#[]⟩, .string ⟨#[]⟩, .string ⟨#[]⟩, .string ⟨#[]⟩, .string ⟨#[]⟩, .bool false, .int .i64 0, .string ⟨#[]⟩, .string ⟨#[]⟩] #[.int .i64 p.kind, .string p.id, .string ⟨#[]⟩, .string ⟨#[]⟩, .string ⟨#[]⟩, .int .i64 0, .string ⟨#[]⟩, .string ⟨#[]⟩, .string ⟨#[]⟩, .string ⟨#[]⟩, .string ⟨#[]⟩, .bool false, .int .i64 0, .string ⟨#[]⟩, .string ⟨#[]⟩] (by kernel_rfl) rfl (all_oneCell_toArray (ptL.one (Dg.barePt p.kind p.id)))
 have r3 := heap_alloc_new w1 (.cells #[.int .i64 p.kind, .string p.id, .string ⟨#[]⟩, .string ⟨#[]⟩, .string ⟨#[]⟩, .int .i64 0, .string ⟨#[]⟩, .string ⟨#[]⟩, .string ⟨#[]⟩, .string ⟨#[]⟩, .string ⟨#[]⟩, .bool false, .int .i64 0, .string ⟨#[]⟩, .string ⟨#[]⟩] 39)
 have hbn := Below.news (Below.refl w1.heap.size w1) (.cells #[.int .i64 p.kind, .string p.id, .string ⟨#[]⟩, .string ⟨#[]⟩, .string ⟨#[]⟩, .int .i64 0, .string ⟨#[]⟩, .string ⟨#[]⟩, .string ⟨#[]⟩, .string ⟨#[]⟩, .string ⟨#[]⟩, .bool false, .int .i64 0, .string ⟨#[]⟩, .string ⟨#[]⟩] 39)
 have r12 := iNext r1 hbn
 have hb2 := bnext hb1 hbn
 have hsz := lt_of_block r1
 go_upto_region 5 with (fail)
 clear hst c1 hbn hb1 r1
 obtain ⟨b3, hb3⟩ : ∃ b3, b3 = w1.heap.size := ⟨_, rfl⟩
 have HB3 := hide hb3
 rw [← hb3] at r3 hsz ⊢
 clear hb3
 generalize w1.alloc (.cells #[.int .i64 p.kind, .string p.id, .string ⟨#[]⟩, .string ⟨#[]⟩, .string ⟨#[]⟩, .int .i64 0, .string ⟨#[]⟩, .string ⟨#[]⟩, .string ⟨#[]⟩, .string ⟨#[]⟩, .string ⟨#[]⟩, .bool false, .int .i64 0, .string ⟨#[]⟩, .string ⟨#[]⟩] 39) = w2 at *
 clear HB3
 clear c0
 have hst := store_new (ty := 37) (T := 37) w2 #[.int .i64 0, .string ⟨#[]⟩, .string ⟨#[]⟩, .string ⟨#[]⟩, .string ⟨#[]⟩, .string ⟨#[]⟩, .bool false] #[.int .i64 p.item.1, .string p.item.2, .string p.item.3, .string p.item.4, .string p.item.5, .string p.item.6, .bool p.item.7] (by kernel_rfl) rfl (all_oneCell_toArray (iLay.one p.item))
 have hRI := hide (range_of r12 5 [.int .i64 p.item.1, .string p.item.2, .string p.item.3, .string p.item.4, .string p.item.5, .string p.item.6, .bool p.item.7] rfl)
 go_upto_region 6 with (with_reducible refine wpList_load_mid rfl 37 (.tmp 15) rfl w.heap.size 5 rfl _ _ hRI.out Try.underlying37 rfl (by kernel_rfl) ?_)
 clear hst hRI
 have r5 := heap_alloc_new w2 (.cells #[.int .i64 p.item.1, .string p.item.2, .string p.item.3, .string p.item.4, .string p.item.5, .string p.item.6, .bool p.item.7] 37)
 have hbn := Below.news (Below.refl w2.heap.size w2) (.cells #[.int .i64 p.item.1, .string p.item.2, .string p.item.3, .string p.item.4, .string p.item.5, .string p.item.6, .bool p.item.7] 37)
 have q1 := iNext r12 hbn
 have q3 := iNext r3 hbn
 have qb := bnext hb2 hbn
 have hsz3 := lt_of_block r3
 obtain ⟨b5, hb5⟩ : ∃ b5, b5 = w2.heap.size := ⟨_, rfl⟩
 have HB5 := hide hb5
 rw [← hb5] at r5 hsz3 ⊢
 clear hbn hb2 r12 r3 hb5
 have r12 := q1
 have r3 := q3
 have hb2 := qb
 clear q1 q3 qb
 generalize w2.alloc (.cells #[.int .i64 p.item.1, .string p.item.2, .string p.item.3, .string p.item.4, .string p.item.5, .string p.item.6, .bool p.item.7] 37) = v2 at *
 clear HB5
 refine wp_region_noPanic ?_
 refine wp_region_L (fun X => X.heap[w.heap.size]? = some (.cells #[.int .i64 p.1, .string p.2, .string p.3, .string p.4, .string p.5, .int .i64 p.6.1, .string p.6.2, .string p.6.3, .string p.6.4, .string p.6.5, .string p.6.6, .bool p.6.7, .int .i64 p.7, .string p.8, .string p.9] 39 (0, 0))) 12 hmx ?_
 have hdr := (Below.refl v2.heap.size v2).drew
 have hS1 : (fun X : World => X.heap[w.heap.size]? = some (.cells #[.int .i64 p.1, .string p.2, .string p.3, .string p.4, .string p.5, .int .i64 p.6.1, .string p.6.2, .string p.6.3, .string p.6.4, .string p.6.5, .string p.6.6, .bool p.6.7, .int .i64 p.7, .string p.8, .string p.9] 39 (0, 0))) v2.drew := iNext r12 hdr
 have q3 := iNext r3 hdr
 have qb := bnext hb2 hdr
 have q_r5 := iNext r5 hdr
 clear hdr r12 r3 hb2 r5
 have r3 := q3
 have hb2 := qb
 have r5 := q_r5
 clear q3 qb q_r5
 generalize v2.drew = u0 at *
 refine tkY 0 14 ?_ rfl ?_ hS1 ?_
 rotate_left
 ·intro wS hS; go_simp; (try with_reducible rfl)
 simp only [Act.put, pu1, pu2, pu3, pu4, pu5, pu6]
 refine tkY 1 14 ?_ rfl ?_ hS1 ?_
 rotate_left
 ·intro wS hS; have hcs := jC15 hS; have c2 := hcs.2.2.1; have c3 := hcs.2.2.2.1; have c5 := hcs.2.2.2.2.2.1; have c6 := hcs.2.2.2.2.2.2.1; have c7 := hcs.2.2.2.2.2.2.2.1; have c8 := hcs.2.2.2.2.2.2.2.2.1; have c9 := hcs.2.2.2.2.2.2.2.2.2.1; have c10 := hcs.2.2.2.2.2.2.2.2.2.2.1; have c11 := hcs.2.2.2.2.2.2.2.2.2.2.2.1; clear hcs; go_simp; (try with_reducible rfl)
 simp only [Act.put, pu1, pu2, pu3, pu4, pu5, pu6]
 refine tkY 2 14 ?_ rfl ?_ hS1 ?_
 rotate_left
 ·intro wS hS; go_simp; (try with_reducible rfl)
 simp only [Act.put, pu1, pu2, pu3, pu4, pu5, pu6]
 refine tkY 3 14 ?_ rfl ?_ hS1 ?_
 rotate_left
 ·intro wS hS; have hcs := jC15 hS; have c2 := hcs.2.2.1; have c3 := hcs.2.2.2.1; have c5 := hcs.2.2.2.2.2.1; have c6 := hcs.2.2.2.2.2.2.1; have c7 := hcs.2.2.2.2.2.2.2.1; have c8 := hcs.2.2.2.2.2.2.2.2.1; have c9 := hcs.2.2.2.2.2.2.2.2.2.1; have c10 := hcs.2.2.2.2.2.2.2.2.2.2.1; have c11 := hcs.2.2.2.2.2.2.2.2.2.2.2.1; clear hcs; go_simp; (try with_reducible rfl)
 simp only [Act.put, pu1, pu2, pu3, pu4, pu5, pu6]
 refine tkY 4 14 ?_ rfl ?_ hS1 ?_
 rotate_left
 ·intro wS hS; go_simp; (try with_reducible rfl)
 simp only [Act.put, pu1, pu2, pu3, pu4, pu5, pu6]
 refine tkY 5 14 ?_ rfl ?_ hS1 ?_
 rotate_left
 ·intro wS hS; have hcs := jC15 hS; have c2 := hcs.2.2.1; have c3 := hcs.2.2.2.1; have c5 := hcs.2.2.2.2.2.1; have c6 := hcs.2.2.2.2.2.2.1; have c7 := hcs.2.2.2.2.2.2.2.1; have c8 := hcs.2.2.2.2.2.2.2.2.1; have c9 := hcs.2.2.2.2.2.2.2.2.2.1; have c10 := hcs.2.2.2.2.2.2.2.2.2.2.1; have c11 := hcs.2.2.2.2.2.2.2.2.2.2.2.1; clear hcs; go_simp; (try with_reducible rfl)
 simp only [Act.put, pu1, pu2, pu3, pu4, pu5, pu6]
 refine onY 6 (by rfl) fun K hK => ?_
 go_simp
 refine hK.out _ _ (Or.inr hS1) ?_
 clear hK K
 try simp only [Act.put, pu1, pu2, pu3, pu4, pu5, pu6]
 refine onY 7 (by rfl) fun K hK => ?_
 have r12 := hS1
 have hst := store_part (ty := 9) u0 b3 2 #[.int .i64 p.kind, .string p.id, .string ⟨#[]⟩, .string ⟨#[]⟩, .string ⟨#[]⟩, .int .i64 0, .string ⟨#[]⟩, .string ⟨#[]⟩, .string ⟨#[]⟩, .string ⟨#[]⟩, .string ⟨#[]⟩, .bool false, .int .i64 0, .string ⟨#[]⟩, .string ⟨#[]⟩] (.string p.parent) #[.int .i64 p.kind, .string p.id, .string p.parent, .string ⟨#[]⟩, .string ⟨#[]⟩, .int .i64 0, .string ⟨#[]⟩, .string ⟨#[]⟩, .string ⟨#[]⟩, .string ⟨#[]⟩, .string ⟨#[]⟩, .bool false, .int .i64 0, .string ⟨#[]⟩, .string ⟨#[]⟩] r3 infoStr1 (by show 2 + 1 ≤ 15; decide) (one_str _) rfl
 have q1 := (setRow_other u0 b3 w.heap.size #[.int .i64 p.kind, .string p.id, .string p.parent, .string ⟨#[]⟩, .string ⟨#[]⟩, .int .i64 0, .string ⟨#[]⟩, .string ⟨#[]⟩, .string ⟨#[]⟩, .string ⟨#[]⟩, .string ⟨#[]⟩, .bool false, .int .i64 0, .string ⟨#[]⟩, .string ⟨#[]⟩] (by omega)).trans r12
 have q3 := setRow_heap u0 b3 _ #[.int .i64 p.kind, .string p.id, .string p.parent, .string ⟨#[]⟩, .string ⟨#[]⟩, .int .i64 0, .string ⟨#[]⟩, .string ⟨#[]⟩, .string ⟨#[]⟩, .string ⟨#[]⟩, .string ⟨#[]⟩, .bool false, .int .i64 0, .string ⟨#[]⟩, .string ⟨#[]⟩] _ _ r3
 have qb := below_setRow hb2 (by omega) (g := b3) #[.int .i64 p.kind, .string p.id, .string p.parent, .string ⟨#[]⟩, .string ⟨#[]⟩, .int .i64 0, .string ⟨#[]⟩, .string ⟨#[]⟩, .string ⟨#[]⟩, .string ⟨#[]⟩, .string ⟨#[]⟩, .bool false, .int .i64 0, .string ⟨#[]⟩, .string ⟨#[]⟩]
 have q_r5 := (setRow_other u0 b3 b5 #[.int .i64 p.kind, .string p.id, .string p.parent, .string ⟨#[]⟩, .string ⟨#[]⟩, .int .i64 0, .string ⟨#[]⟩, .string ⟨#[]⟩, .string ⟨#[]⟩, .string ⟨#[]⟩, .string ⟨#[]⟩, .bool false, .int .i64 0, .string ⟨#[]⟩, .string ⟨#[]⟩] (by omega)).trans r5
 go_simp
 clear hS1
 clear hst r12 r3 hb2 r5
 have r12 := q1
 have r3 := q3
 have hb2 := qb
 have r5 := q_r5
 clear q1 q3 qb q_r5
 generalize u0.setRow b3 #[.int .i64 p.kind, .string p.id, .string p.parent, .string ⟨#[]⟩, .string ⟨#[]⟩, .int .i64 0, .string ⟨#[]⟩, .string ⟨#[]⟩, .string ⟨#[]⟩, .string ⟨#[]⟩, .string ⟨#[]⟩, .bool false, .int .i64 0, .string ⟨#[]⟩, .string ⟨#[]⟩] = u1 at *
 have hS1 := r12
 clear r12
 refine hK.out _ _ (Or.inr hS1) ?_
 clear hK K
 try simp only [Act.put, pu1, pu2, pu3, pu4, pu5, pu6]
 refine onY 8 (by rfl) fun K hK => ?_
 go_simp
 refine hK.out _ _ (Or.inr hS1) ?_
 clear hK K
 try simp only [Act.put, pu1, pu2, pu3, pu4, pu5, pu6]
 refine onY 9 (by rfl) fun K hK => ?_
 have r12 := hS1
 have hst := store_part (ty := 9) u1 b3 3 #[.int .i64 p.kind, .string p.id, .string p.parent, .string ⟨#[]⟩, .string ⟨#[]⟩, .int .i64 0, .string ⟨#[]⟩, .string ⟨#[]⟩, .string ⟨#[]⟩, .string ⟨#[]⟩, .string ⟨#[]⟩, .bool false, .int .i64 0, .string ⟨#[]⟩, .string ⟨#[]⟩] (.string p.after) #[.int .i64 p.kind, .string p.id, .string p.parent, .string p.after, .string ⟨#[]⟩, .int .i64 0, .string ⟨#[]⟩, .string ⟨#[]⟩, .string ⟨#[]⟩, .string ⟨#[]⟩, .string ⟨#[]⟩, .bool false, .int .i64 0, .string ⟨#[]⟩, .string ⟨#[]⟩] r3 infoStr1 (by show 3 + 1 ≤ 15; decide) (one_str _) rfl
 have q1 := (setRow_other u1 b3 w.heap.size #[.int .i64 p.kind, .string p.id, .string p.parent, .string p.after, .string ⟨#[]⟩, .int .i64 0, .string ⟨#[]⟩, .string ⟨#[]⟩, .string ⟨#[]⟩, .string ⟨#[]⟩, .string ⟨#[]⟩, .bool false, .int .i64 0, .string ⟨#[]⟩, .string ⟨#[]⟩] (by omega)).trans r12
 have q3 := setRow_heap u1 b3 _ #[.int .i64 p.kind, .string p.id, .string p.parent, .string p.after, .string ⟨#[]⟩, .int .i64 0, .string ⟨#[]⟩, .string ⟨#[]⟩, .string ⟨#[]⟩, .string ⟨#[]⟩, .string ⟨#[]⟩, .bool false, .int .i64 0, .string ⟨#[]⟩, .string ⟨#[]⟩] _ _ r3
 have qb := below_setRow hb2 (by omega) (g := b3) #[.int .i64 p.kind, .string p.id, .string p.parent, .string p.after, .string ⟨#[]⟩, .int .i64 0, .string ⟨#[]⟩, .string ⟨#[]⟩, .string ⟨#[]⟩, .string ⟨#[]⟩, .string ⟨#[]⟩, .bool false, .int .i64 0, .string ⟨#[]⟩, .string ⟨#[]⟩]
 have q_r5 := (setRow_other u1 b3 b5 #[.int .i64 p.kind, .string p.id, .string p.parent, .string p.after, .string ⟨#[]⟩, .int .i64 0, .string ⟨#[]⟩, .string ⟨#[]⟩, .string ⟨#[]⟩, .string ⟨#[]⟩, .string ⟨#[]⟩, .bool false, .int .i64 0, .string ⟨#[]⟩, .string ⟨#[]⟩] (by omega)).trans r5
 go_simp
 clear hS1
 clear hst r12 r3 hb2 r5
 have r12 := q1
 have r3 := q3
 have hb2 := qb
 have r5 := q_r5
 clear q1 q3 qb q_r5
 generalize u1.setRow b3 #[.int .i64 p.kind, .string p.id, .string p.parent, .string p.after, .string ⟨#[]⟩, .int .i64 0, .string ⟨#[]⟩, .string ⟨#[]⟩, .string ⟨#[]⟩, .string ⟨#[]⟩, .string ⟨#[]⟩, .bool false, .int .i64 0, .string ⟨#[]⟩, .string ⟨#[]⟩] = u2 at *
 have hS1 := r12
 clear r12
 refine hK.out _ _ (Or.inr hS1) ?_
 clear hK K
 try simp only [Act.put, pu1, pu2, pu3, pu4, pu5, pu6]
 refine onY 10 (by rfl) fun K hK => ?_
 go_simp
 refine hK.out _ _ (Or.inr hS1) ?_
 clear hK K
 try simp only [Act.put, pu1, pu2, pu3, pu4, pu5, pu6]
 refine onY 11 (by rfl) fun K hK => ?_
 have r12 := hS1
 have hst := store_part (ty := 37) u2 b3 5 #[.int .i64 p.kind, .string p.id, .string p.parent, .string p.after, .string ⟨#[]⟩, .int .i64 0, .string ⟨#[]⟩, .string ⟨#[]⟩, .string ⟨#[]⟩, .string ⟨#[]⟩, .string ⟨#[]⟩, .bool false, .int .i64 0, .string ⟨#[]⟩, .string ⟨#[]⟩] (.agg #[.int .i64 p.item.1, .string p.item.2, .string p.item.3, .string p.item.4, .string p.item.5, .string p.item.6, .bool p.item.7]) #[.int .i64 p.kind, .string p.id, .string p.parent, .string p.after, .string ⟨#[]⟩, .int .i64 p.item.1, .string p.item.2, .string p.item.3, .string p.item.4, .string p.item.5, .string p.item.6, .bool p.item.7, .int .i64 0, .string ⟨#[]⟩, .string ⟨#[]⟩] r3 infoItem7 (by show 5 + 7 ≤ 15; decide) (fun u hu => iLay.one p.item u hu) rfl
 have q1 := (setRow_other u2 b3 w.heap.size #[.int .i64 p.kind, .string p.id, .string p.parent, .string p.after, .string ⟨#[]⟩, .int .i64 p.item.1, .string p.item.2, .string p.item.3, .string p.item.4, .string p.item.5, .string p.item.6, .bool p.item.7, .int .i64 0, .string ⟨#[]⟩, .string ⟨#[]⟩] (by omega)).trans r12
 have q3 := setRow_heap u2 b3 _ #[.int .i64 p.kind, .string p.id, .string p.parent, .string p.after, .string ⟨#[]⟩, .int .i64 p.item.1, .string p.item.2, .string p.item.3, .string p.item.4, .string p.item.5, .string p.item.6, .bool p.item.7, .int .i64 0, .string ⟨#[]⟩, .string ⟨#[]⟩] _ _ r3
 have qb := below_setRow hb2 (by omega) (g := b3) #[.int .i64 p.kind, .string p.id, .string p.parent, .string p.after, .string ⟨#[]⟩, .int .i64 p.item.1, .string p.item.2, .string p.item.3, .string p.item.4, .string p.item.5, .string p.item.6, .bool p.item.7, .int .i64 0, .string ⟨#[]⟩, .string ⟨#[]⟩]
 have q_r5 := (setRow_other u2 b3 b5 #[.int .i64 p.kind, .string p.id, .string p.parent, .string p.after, .string ⟨#[]⟩, .int .i64 p.item.1, .string p.item.2, .string p.item.3, .string p.item.4, .string p.item.5, .string p.item.6, .bool p.item.7, .int .i64 0, .string ⟨#[]⟩, .string ⟨#[]⟩] (by omega)).trans r5
 go_simp
 clear hS1
 clear hst r12 r3 hb2 r5
 have r12 := q1
 have r3 := q3
 have hb2 := qb
 have r5 := q_r5
 clear q1 q3 qb q_r5
 generalize u2.setRow b3 #[.int .i64 p.kind, .string p.id, .string p.parent, .string p.after, .string ⟨#[]⟩, .int .i64 p.item.1, .string p.item.2, .string p.item.3, .string p.item.4, .string p.item.5, .string p.item.6, .bool p.item.7, .int .i64 0, .string ⟨#[]⟩, .string ⟨#[]⟩] = u3 at *
 have hS1 := r12
 clear r12
 refine hK.out _ _ (Or.inr hS1) ?_
 clear hK K
 try simp only [Act.put, pu1, pu2, pu3, pu4, pu5, pu6]
 refine dnY ?_
 have r12 := hS1
 clear hS1
 have hst := store_part (ty := 9) u3 b5 2 #[.int .i64 p.item.1, .string p.item.2, .string p.item.3, .string p.item.4, .string p.item.5, .string p.item.6, .bool p.item.7] (.string ⟨#[]⟩) #[.int .i64 p.item.kind, .string p.item.id, .string ⟨#[]⟩, .string p.item.number, .string p.item.north, .string p.item.south, .bool p.item.gone] r5 infoStr1 (by show 2 + 1 ≤ 7; decide) (one_str _) rfl
 have q1 := (setRow_other u3 b5 w.heap.size #[.int .i64 p.item.kind, .string p.item.id, .string ⟨#[]⟩, .string p.item.number, .string p.item.north, .string p.item.south, .bool p.item.gone] (by omega)).trans r12
 have q3 := (setRow_other u3 b5 b3 #[.int .i64 p.item.kind, .string p.item.id, .string ⟨#[]⟩, .string p.item.number, .string p.item.north, .string p.item.south, .bool p.item.gone] (by omega)).trans r3
 have q5 := setRow_heap u3 b5 _ #[.int .i64 p.item.kind, .string p.item.id, .string ⟨#[]⟩, .string p.item.number, .string p.item.north, .string p.item.south, .bool p.item.gone] _ _ r5
 have qb := below_setRow hb2 (by omega) (g := b5) #[.int .i64 p.item.kind, .string p.item.id, .string ⟨#[]⟩, .string p.item.number, .string p.item.north, .string p.item.south, .bool p.item.gone]
 go_upto_region 8 with (fail)
 clear hst r12 r3 r5 hb2
 have r12 := q1
 have r3 := q3
 have r5 := q5
 have hb2 := qb
 clear q1 q3 q5 qb
 generalize u3.setRow b5 #[.int .i64 p.item.kind, .string p.item.id, .string ⟨#[]⟩, .string p.item.number, .string p.item.north, .string p.item.south, .bool p.item.gone] = w8 at *
 have hcs := jC15 r12
 have c1 := hcs.2.1; have c2 := hcs.2.2.1; have c7 := hcs.2.2.2.2.2.2.2.1
 obtain ⟨z0, z1, z2, z3, z4, z5, z6⟩ := iCells r5
 clear hcs
 have hpr : ∀ w, (binOp .eql 39 (.agg #[.int .i64 p.1, .string p.2, .string p.3, .string p.4, .string p.5, .int .i64 p.6.1, .string p.6.2, .string p.6.3, .string p.6.4, .string p.6.5, .string p.6.6, .bool p.6.7, .int .i64 p.7, .string p.8, .string p.9]) (.agg #[.int .i64 p.kind, .string p.id, .string p.parent, .string p.after, .string ⟨#[]⟩, .int .i64 p.item.1, .string p.item.2, .string p.item.3, .string p.item.4, .string p.item.5, .string p.item.6, .bool p.item.7, .int .i64 0, .string ⟨#[]⟩, .string ⟨#[]⟩])).run Try.prog w = .ok (.bool R1) w := fun w => by rw [← HR1.out]; exact patch_run w p { Dg.barePt p.kind p.id with parent := p.parent, after := p.after, item := p.item }
 have hL1 := hide (range_of r12 0 [.int .i64 p.1, .string p.2, .string p.3, .string p.4, .string p.5, .int .i64 p.6.1, .string p.6.2, .string p.6.3, .string p.6.4, .string p.6.5, .string p.6.6, .bool p.6.7, .int .i64 p.7, .string p.8, .string p.9] rfl)
 have hL3 := hide (range_of r3 0 [.int .i64 p.kind, .string p.id, .string p.parent, .string p.after, .string ⟨#[]⟩, .int .i64 p.item.1, .string p.item.2, .string p.item.3, .string p.item.4, .string p.item.5, .string p.item.6, .bool p.item.7, .int .i64 0, .string ⟨#[]⟩, .string ⟨#[]⟩] rfl)
 cases R1 with
 | false =>
  go_wp2_with (first | (with_reducible refine wpList_load_mid rfl 39 (.tmp 1) rfl w.heap.size 0 rfl _ _ hL1.out Try.underlying39 rfl (by kernel_rfl) ?_) | (with_reducible refine wpList_load_mid rfl 39 (.tmp 3) rfl b3 0 rfl _ _ hL3.out Try.underlying39 rfl (by kernel_rfl) ?_))
  go_ret
  exact ⟨rfl, hb2⟩
 | true =>
  cases E1 with
  | false =>
   go_wp2_with (first | (with_reducible refine wpList_load_mid rfl 39 (.tmp 1) rfl w.heap.size 0 rfl _ _ hL1.out Try.underlying39 rfl (by kernel_rfl) ?_) | (with_reducible refine wpList_load_mid rfl 39 (.tmp 3) rfl b3 0 rfl _ _ hL3.out Try.underlying39 rfl (by kernel_rfl) ?_))
   go_ret
   exact ⟨rfl, hb2⟩
  | true =>
   cases E2 with
   | false =>
    go_wp2_with (first | (with_reducible refine wpList_load_mid rfl 39 (.tmp 1) rfl w.heap.size 0 rfl _ _ hL1.out Try.underlying39 rfl (by kernel_rfl) ?_) | (with_reducible refine wpList_load_mid rfl 39 (.tmp 3) rfl b3 0 rfl _ _ hL3.out Try.underlying39 rfl (by kernel_rfl) ?_))
    go_ret
    exact ⟨rfl, hb2⟩
   | true =>
    go_wp2_with (first | (with_reducible refine wpList_load_mid rfl 39 (.tmp 1) rfl w.heap.size 0 rfl _ _ hL1.out Try.underlying39 rfl (by kernel_rfl) ?_) | (with_reducible refine wpList_load_mid rfl 39 (.tmp 3) rfl b3 0 rfl _ _ hL3.out Try.underlying39 rfl (by kernel_rfl) ?_))
    clear hL1 hL3 hpr c1 c2 c7 z0 z1 z2 z3 z4 z5 z6
    refine (validF_of { p.item with parent := Dg.nil8 } ⟨HP.out.it.k0, HP.out.it.k1, HP.out.it.iz, by dsimp only; decide, HP.out.it.nz, HP.out.it.oz, HP.out.it.sz⟩ w8 R2 HR2.out).mono ?_
    rintro e w9 ⟨rfl, hb4⟩
    have hb6 := bnext hb2 hb4
    clear hb4 hb2
    go_wp2
    go_ret
    exact ⟨rfl, hb6⟩
end Go.Proofs.Ytgmimhgeigbpkaa
/- formed in general, Apply of package patch. No conditions but those that each theorem states. -/
namespace Go.Proofs.Ytgmimhgeigbpkaa
open Go Go.RowKit Go.Sort Go.Maps
theorem dec_beq (a b : ByteArray) : decide (a = b) = (a.toList == b.toList) := by
 rw [Bool.eq_iff_iff, decide_eq_true_iff]
 exact (Lib.bytes_beq_iff _ _).symm
/-- formed, of whatever patch but of words. -/
theorem formed_of (p : Dg.Pt) (hp : PtW p) (h2 : p.kind ≠ 2) (R : Bool) (hR : Dg.formedP p = R) (w : World) :
  Calls Try.prog 25 #[.agg #[.int .i64 p.1, .string p.2, .string p.3, .string p.4, .string p.5, .int .i64 p.6.1, .string p.6.2, .string p.6.3, .string p.6.4, .string p.6.5, .string p.6.6, .bool p.6.7, .int .i64 p.7, .string p.8, .string p.9]] w fun e w' => e = .returned (.bool R) ∧ Below w.heap.size w w' := by
 have b (k : Int) (h : p.kind ≠ k) : (p.kind == k) = false := beq_eq_false_iff_ne.2 h
 have e (k : Int) (h : p.kind = k) : (p.kind == k) = true := beq_iff_eq.2 h
 unfold Dg.formedP at hR
 by_cases h1 : p.kind = 1
 ·rw [if_pos h1, ← sameP_dec, dec_beq, dec_beq] at hR
  rw [← hR]
  exact formed_1 p hp _ _ rfl rfl _ _ rfl rfl (e 1 h1) w
 rw [if_neg h1] at hR
 by_cases h3 : p.kind = 3
 ·rw [if_pos h3, ← sameP_dec] at hR
  rw [← hR]
  exact formed_3 p hp _ _ rfl rfl (b 1 h1) (b 2 h2) (e 3 h3) w
 rw [if_neg h3] at hR
 by_cases h4 : p.kind = 4
 ·rw [if_pos h4, ← sameP_dec] at hR
  rw [← hR]
  exact formed_4 p _ rfl (b 1 h1) (b 2 h2) (b 3 h3) (e 4 h4) w
 rw [if_neg h4] at hR
 by_cases h5 : p.kind = 5
 ·rw [if_pos (Or.inl h5), ← sameP_dec] at hR
  rw [← hR]
  exact formed_5 p _ rfl (b 1 h1) (b 2 h2) (b 3 h3) (b 4 h4) (e 5 h5) w
 by_cases h6 : p.kind = 6
 ·rw [if_pos (Or.inr h6), ← sameP_dec] at hR
  rw [← hR]
  exact formed_6 p _ rfl (b 1 h1) (b 2 h2) (b 3 h3) (b 4 h4) (b 5 h5) (e 6 h6) w
 rw [if_neg (fun h => h.elim h5 h6)] at hR
 by_cases h7 : p.kind = 7
 ·rw [if_pos h7, ← sameP_dec] at hR
  rw [← hR]
  exact formed_7 p _ rfl (b 1 h1) (b 2 h2) (b 3 h3) (b 4 h4) (b 5 h5) (b 6 h6) (e 7 h7) w
 rw [if_neg h7] at hR
 rw [← hR]
 exact formed_0 p (b 1 h1) (b 2 h2) (b 3 h3) (b 4 h4) (b 5 h5) (b 6 h6) (b 7 h7) w
/-- A whole struct is read, guarded. -/
theorem wpList_load_midW {P : Program} {ops : Array Oper} {rest : List Oper} {op : Oper} {a : Act} {w : World} {Q : Exit → Act → World → Prop} (ty : TypeId) (x : Operand) (ho : op.op = .load ty x) (hgd : Region.wanted op (yielded ops a.tmps) = true)
  (b o : Nat) (hx : a.eval x = .pointer (some ⟨b, o, none⟩)) (cs : List Value) (d : TypeDesc) (hc : w.rangeAt b o cs)
  (hu : P.underlying ty = some d) (hd : d.isRow = true) (hi : (P.info? ty).map (·.size) = some cs.length)
  (h : wpList P ops Q rest (a.put op.dst (.agg cs.toArray)) w) : wpList P ops Q (op :: rest) a w :=
 wpList_wanted hgd fun _ hK => wp_load_mid ty x ho b o hx cs d hc hu hd hi (hK _ _ h)
/-- Apply's variables: the code, the patch, the result. -/
structure ApS (b1 : Nat) (A : Option Addr) (n c : Nat) (l : List Dg.It) (p : Dg.Pt) (X : World) : Prop where
 r1 : X.heap[b1]? = some (.cells #[.slice A n c] 24 (0, 0))
 r2 : X.heap[b1 + 1]? = some (.cells #[.int .i64 p.1, .string p.2, .string p.3, .string p.4, .string p.5, .int .i64 p.6.1, .string p.6.2, .string p.6.3, .string p.6.4, .string p.6.5, .string p.6.6, .bool p.6.7, .int .i64 p.7, .string p.8, .string p.9] 39 (0, 0))
 r3 : X.heap[b1 + 1 + 1]? = some (.cells #[.slice none 0 0] 24 (0, 0))
 its : Its X X.heap.size A l
theorem ApS.below {b1 : Nat} {A : Option Addr} {n c : Nat} {l : List Dg.It} {p : Dg.Pt} {X X' : World} (h : ApS b1 A n c l p X) (hb : Below X.heap.size X X') : ApS b1 A n c l p X' := ⟨iNext h.r1 hb, iNext h.r2 hb, iNext h.r3 hb, h.its.keep hb⟩
set_option maxRecDepth 100000 in
set_option maxHeartbeats 8000000 in
attribute [-go_sem] Instr.storeAt in
theorem apply_inv (l : List Dg.It) (A : Option Addr) (n c : Nat) (hl : l.length = n) (hn : n ≤ 1048576) (hw : ∀ x ∈ l, ItW x) (p : Dg.Pt) (hp : PtW p) (h2 : p.kind ≠ 2) (hv : Dg.validC l = false)  (w : World) (hI : Its w w.heap.size A l) :
  Calls Try.prog 11 #[.agg #[.slice A n c], .agg #[.int .i64 p.1, .string p.2, .string p.3, .string p.4, .string p.5, .int .i64 p.6.1, .string p.6.2, .string p.6.3, .string p.6.4, .string p.6.5, .string p.6.6, .bool p.6.7, .int .i64 p.7, .string p.8, .string p.9]] w (ApR ([], 1) w) := by
 obtain ⟨r1, r2, r3, hb1, hs⟩ := iAlloc3 w (.cells #[.slice A n c] 24) (.cells #[.int .i64 p.1, .string p.2, .string p.3, .string p.4, .string p.5, .int .i64 p.6.1, .string p.6.2, .string p.6.3, .string p.6.4, .string p.6.5, .string p.6.6, .bool p.6.7, .int .i64 p.7, .string p.8, .string p.9] 39) (.cells #[.slice none 0 0] 24)
 have hS1 : ApS w.heap.size A n c l p (((w.alloc (.cells #[.slice A n c] 24)).alloc (.cells #[.int .i64 p.1, .string p.2, .string p.3, .string p.4, .string p.5, .int .i64 p.6.1, .string p.6.2, .string p.6.3, .string p.6.4, .string p.6.5, .string p.6.6, .bool p.6.7, .int .i64 p.7, .string p.8, .string p.9] 39)).alloc (.cells #[.slice none 0 0] 24)) := ⟨r1, r2, r3, hI.keep hb1⟩
 have hmx : Try.prog.follows .mixedOrders = true := by kernel_rfl
 have HS := hide hs; have HL := hide hl; have HW := hide hw; have HP := hide hp; have H2 := hide h2; have HV := hide hv
 clear r1 r2 r3 hs hI hl hw hp h2 hv
 have c1 := iCells0 hS1.r1
 go_enter Try.func11, Try.ntmps11
 go_wp2_with fail
 generalize ((w.alloc (.cells #[.slice A n c] 24)).alloc (.cells #[.int .i64 p.1, .string p.2, .string p.3, .string p.4, .string p.5, .int .i64 p.6.1, .string p.6.2, .string p.6.3, .string p.6.4, .string p.6.5, .string p.6.6, .bool p.6.7, .int .i64 p.7, .string p.8, .string p.9] 39)).alloc (.cells #[.slice none 0 0] 24) = w1 at *
 refine (Code.valid_of l A n c HL.out HW.out hn w1 hS1.its false HV.out).mono ?_
 rintro e w2 ⟨rfl, hbq⟩
 have hS2 := hS1.below hbq
 have hb2 := bnext hb1 hbq
 have hsz : w.heap.size + 3 ≤ w2.heap.size := by have := hbq.size; have := HS.out; omega
 clear hbq hS1 hb1 c1 HS
 have hst := store_part (ty := 24) w2 (w.heap.size + 1 + 1) 0 #[.slice none 0 0] (.agg #[.slice none 0 0]) #[.slice none 0 0] hS2.r3 infoCode1 (Nat.le_refl _) (one_code _ _ _) rfl
 have r25 := setRow_heap w2 (w.heap.size + 1 + 1) _ #[.slice none 0 0] _ _ hS2.r3
 have hb8 := below_setRow hb2 (by omega) (g := w.heap.size + 1 + 1) #[.slice none 0 0]
 go_wp2
 refine bodyPost_ret (results_c8 Try.results11 _ _ (w.heap.size + 1 + 1) 24 #[.slice none 0 0] (0, 0) _ rfl r25 Try.underlying24 (by kernel_rfl)) rfl (ApR.err rfl hb8)
set_option maxRecDepth 100000 in
set_option maxHeartbeats 8000000 in
attribute [-go_sem] Instr.storeAt in
theorem apply_unf (l : List Dg.It) (A : Option Addr) (n c : Nat) (hl : l.length = n) (hn : n ≤ 1048576) (hw : ∀ x ∈ l, ItW x) (p : Dg.Pt) (hp : PtW p) (h2 : p.kind ≠ 2) (hv : Dg.validC l = true) (hf : Dg.formedP p = false)  (w : World) (hI : Its w w.heap.size A l) :
  Calls Try.prog 11 #[.agg #[.slice A n c], .agg #[.int .i64 p.1, .string p.2, .string p.3, .string p.4, .string p.5, .int .i64 p.6.1, .string p.6.2, .string p.6.3, .string p.6.4, .string p.6.5, .string p.6.6, .bool p.6.7, .int .i64 p.7, .string p.8, .string p.9]] w (ApR ([], 1) w) := by
 obtain ⟨r1, r2, r3, hb1, hs⟩ := iAlloc3 w (.cells #[.slice A n c] 24) (.cells #[.int .i64 p.1, .string p.2, .string p.3, .string p.4, .string p.5, .int .i64 p.6.1, .string p.6.2, .string p.6.3, .string p.6.4, .string p.6.5, .string p.6.6, .bool p.6.7, .int .i64 p.7, .string p.8, .string p.9] 39) (.cells #[.slice none 0 0] 24)
 have hS1 : ApS w.heap.size A n c l p (((w.alloc (.cells #[.slice A n c] 24)).alloc (.cells #[.int .i64 p.1, .string p.2, .string p.3, .string p.4, .string p.5, .int .i64 p.6.1, .string p.6.2, .string p.6.3, .string p.6.4, .string p.6.5, .string p.6.6, .bool p.6.7, .int .i64 p.7, .string p.8, .string p.9] 39)).alloc (.cells #[.slice none 0 0] 24)) := ⟨r1, r2, r3, hI.keep hb1⟩
 have hmx : Try.prog.follows .mixedOrders = true := by kernel_rfl
 have HS := hide hs; have HL := hide hl; have HW := hide hw; have HP := hide hp; have H2 := hide h2; have HV := hide hv
 clear r1 r2 r3 hs hI hl hw hp h2 hv
 have HF := hide hf
 clear hf
 have c1 := iCells0 hS1.r1
 go_enter Try.func11, Try.ntmps11
 go_wp2_with fail
 generalize ((w.alloc (.cells #[.slice A n c] 24)).alloc (.cells #[.int .i64 p.1, .string p.2, .string p.3, .string p.4, .string p.5, .int .i64 p.6.1, .string p.6.2, .string p.6.3, .string p.6.4, .string p.6.5, .string p.6.6, .bool p.6.7, .int .i64 p.7, .string p.8, .string p.9] 39)).alloc (.cells #[.slice none 0 0] 24) = w1 at *
 refine (Code.valid_of l A n c HL.out HW.out hn w1 hS1.its true HV.out).mono ?_
 rintro e w2 ⟨rfl, hbq⟩
 have hS2 := hS1.below hbq
 have hb2 := bnext hb1 hbq
 have hsz : w.heap.size + 3 ≤ w2.heap.size := by have := hbq.size; have := HS.out; omega
 clear hbq hS1 hb1 c1 HS
 have hL2 := hide (range_of hS2.r2 0 [.int .i64 p.1, .string p.2, .string p.3, .string p.4, .string p.5, .int .i64 p.6.1, .string p.6.2, .string p.6.3, .string p.6.4, .string p.6.5, .string p.6.6, .bool p.6.7, .int .i64 p.7, .string p.8, .string p.9] rfl)
 go_wp2_with (refine wpList_load_midW 39 (.tmp 3) rfl (by rfl) (w.heap.size + 1) 0 rfl _ _ hL2.out Try.underlying39 rfl (by kernel_rfl) ?_)
 clear hL2
 refine (formed_of p HP.out H2.out false HF.out w2).mono ?_
 rintro e w3 ⟨rfl, hbq⟩
 have hS3 := hS2.below hbq
 have hb3 := bnext hb2 hbq
 have hsz3 : w.heap.size + 3 ≤ w3.heap.size := by have := hbq.size; omega
 clear hbq hS2 hb2 hsz
 have hst := store_part (ty := 24) w3 (w.heap.size + 1 + 1) 0 #[.slice none 0 0] (.agg #[.slice none 0 0]) #[.slice none 0 0] hS3.r3 infoCode1 (Nat.le_refl _) (one_code _ _ _) rfl
 have r25 := setRow_heap w3 (w.heap.size + 1 + 1) _ #[.slice none 0 0] _ _ hS3.r3
 have hb8 := below_setRow hb3 (by omega) (g := w.heap.size + 1 + 1) #[.slice none 0 0]
 go_wp2
 refine bodyPost_ret (results_c8 Try.results11 _ _ (w.heap.size + 1 + 1) 24 #[.slice none 0 0] (0, 0) _ rfl r25 Try.underlying24 (by kernel_rfl)) rfl (ApR.err rfl hb8)
end Go.Proofs.Ytgmimhgeigbpkaa

