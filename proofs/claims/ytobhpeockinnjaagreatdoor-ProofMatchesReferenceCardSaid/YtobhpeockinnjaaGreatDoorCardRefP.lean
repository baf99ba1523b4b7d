/- Proves that all functions of package proof agree with the reference implementation. Conditions: those of the given row (library tables read as their text lays them). -/
import Derived.Test.YtobhpeockinnjaaGreatDoorCards
import Derived.Test.YtobhpeockinnjaaGreatDoorTie
import Derived.Test.YtobhpeockinnjaaGreatDoorHR6
namespace Go.Proofs.YtobhpeockinnjaaGreatDoor.RefP
open Go Go.RowKit Go.ChangeShapes Go.WideShapes Go.ChangeAt Go.WideMaps Go.WideElems
open Go.ChangeMaps (open_string)
theorem own : ownKnob Tryz.prog.godebug = none := by kernel_rfl
theorem plainLaid : (Rows.proofMatchesReferenceRow.laid.all fun x => x.2.handleName?.isNone) = true := by kernel_rfl
theorem env {W : World} (h : laidMetH Tryz.prog Rows.proofMatchesReferenceRow.laid W) : Env W := env_of_laid plainLaid (by simp [Rows.proofMatchesReferenceRow, show Lib.tabData .u64 Lib.pow10Tab = Rows.laid_internal_strconv_uint64pow10 from rfl]) h
set_option maxRecDepth 100000 in
theorem lifted (os : Os) (started : os.Started) (H : Type) (enc : TypeId × Value → H) :
    ReturnsInHanded {} Tryz.checked os 3 .any (fun w args => (Rows.proofMatchesReferenceSpec.pre enc Tryz.prog Tryz.f3 Rows.proofMatchesReferenceRow.domain false w args ∧ laidMetH Tryz.prog Rows.proofMatchesReferenceRow.laid w) ∧ sizedMet enc Tryz.prog Tryz.f3 (OpenSpec.ofChange Rows.proofMatchesReferenceSpec) false w args)
      (Rows.proofMatchesReferenceSpec.post enc Tryz.prog Tryz.f3 false true false false) := by
  refine returnsInHanded_of_change_and (C := Tryz.checked) (X := fun w _ => laidMetH Tryz.prog Rows.proofMatchesReferenceRow.laid w) (fun _ _ _ hh h => h.of_heap hh) own started (by kernel_rfl) Tryz.func3
    (ChangeSpec.witness_shaped (enc := enc) (C := Tryz.checked) (os := os) (X := fun w _ => laidMetH Tryz.prog Rows.proofMatchesReferenceRow.laid w) false (World.laidAll Tryz.prog os Rows.proofMatchesReferenceRow.laid) #[.agg #[.slice none 0 0], .string ⟨#[]⟩, .string ⟨#[]⟩, .agg #[.int .i64 0, .int .i64 0, .int .i64 0, .string ⟨#[]⟩, .string ⟨#[]⟩, .string ⟨#[]⟩, .string ⟨#[]⟩, .string ⟨#[]⟩, .bool false, .slice none 0 0], .int .i64 0, .slice none 0 0] 8 (World.laidAll_os _ _ _)
      (World.shaped_of_ZipB (by kernel_rfl) (by kernel_rfl)) (by kernel_rfl) (by kernel_rfl) (by kernel_rfl)
      (by rw [MakeChecks.laidMetH_plain _ _ _ plainLaid]; exact laidMet_laidAll _ (by kernel_rfl) (by kernel_rfl))) ?_
  intro W base args ds gs before hval0 hW hc hsz hL _
  have hval : ∀ (j : Nat) t v, Tryz.f3.params[j]? = some t → args[j]? = some v → Value.okWide Tryz.prog W .any base t v := hval0
  have hW' := hW
  have he := env hL
  obtain ⟨p, q, hA0, hV, rfl, _, _⟩ := hW
  have hA : DataW.TrodAll enc Tryz.prog W 0 (fun _ => true) true Tryz.f3.params.toList args.toList ds p := hA0
  rw [Tryz.params3] at hA hval
  obtain ⟨v0, vs0, d0, ds0, p0, q0, hargs, rfl, rfl, h0, r0⟩ := trodAll_cons hA
  obtain ⟨v1, vs1, d1, ds1, p1, q1, rfl, rfl, rfl, h1, r1⟩ := trodAll_cons r0
  obtain ⟨v2, vs2, d2, ds2, p2, q2, rfl, rfl, rfl, h2, r2⟩ := trodAll_cons r1
  obtain ⟨v3, vs3, d3, ds3, p3, q3, rfl, rfl, rfl, h3, r3⟩ := trodAll_cons r2
  obtain ⟨v4, vs4, d4, ds4, p4, q4, rfl, rfl, rfl, h4, r4⟩ := trodAll_cons r3
  obtain ⟨v5, vs5, d5, ds5, p5, q5, rfl, rfl, rfl, h5, r5⟩ := trodAll_cons r4
  obtain ⟨rfl, rfl, rfl⟩ := trodAll_nil r5
  obtain rfl : args = #[v0, v1, v2, v3, v4, v5] := by cases args; simp_all
  obtain ⟨rfl, rfl⟩ := trodVars_none hV
  obtain ⟨A0, c0, l0, rfl, hl0, hw0, hI0, hc0⟩ := open_code (hval 0 24 v0 rfl rfl) h0
  obtain ⟨s1, rfl, rfl, rfl, hs1⟩ := open_string Tryz.underlying9 (hval 1 9 v1 rfl rfl) h1
  obtain ⟨s2, rfl, rfl, rfl, hs2⟩ := open_string Tryz.underlying9 (hval 2 9 v2 rfl rfl) h2
  obtain ⟨x3, A3, c3, rfl, hx3, hS3, hc3⟩ := open_proof (hval 3 29 v3 rfl rfl) h3 (fun x hx => by simpa using List.all_eq_true.1 hsz x (DataW.weights_mem_each (j := 3) (by rw [Tryz.params3]; rfl) rfl x hx))
  obtain ⟨n4, rfl, rfl, rfl, wn4⟩ := open_int Tryz.underlying3 (hval 4 3 v4 rfl rfl) h4
  obtain ⟨hn4, hm4⟩ := bounds_i64 wn4
  obtain ⟨A5, c5, l5, rfl, hl5, hw5, hT5, hc5⟩ := open_tolds (hval 5 30 v5 rfl rfl) h5
  have hid9 : s1.size + s2.size ≤ 9223372036854775807 := by
    have g1 := List.all_eq_true.1 hsz _ (DataW.weights_mem_each (j := 1) (by rw [Tryz.params3]; rfl) rfl s1.data.toList.length (by simp [DataW.weights]))
    have g2 := List.all_eq_true.1 hsz _ (DataW.weights_mem_each (j := 2) (by rw [Tryz.params3]; rfl) rfl s2.data.toList.length (by simp [DataW.weights]))
    have g3 : s1.data.toList.length ≤ reachBytes := by simpa using g1
    have g4 : s2.data.toList.length ≤ reachBytes := by simpa using g2
    have e1 : s1.data.toList.length = s1.size := Array.length_toList
    have e2 : s2.data.toList.length = s2.size := Array.length_toList
    have g5 := reachBytes_lt
    omega
  refine (law_reference44 l0 A0 l0.length c0 rfl hw0 hl0 hc0 s1 s2 hid9 x3 A3 x3.path.length c3 rfl hc3 hx3.pl hx3.c0 hx3.c1 hx3.tw hx3.sum n4 hn4 hm4 l5 A5 l5.length c5 rfl hl5 hw5 W he hI0 hS3 hT5).mono fun e W' ⟨he, hb⟩ => ?_
  subst he
  exact ⟨_, rfl, law_post (by kernel_rfl) rfl (tb := 4) (by kernel_rfl) Tryz.underlying4 (by kernel_rfl) hW' rfl hb⟩
theorem said : Rows.ProofMatchesReferenceSaid :=
  OpenClaim.holds_of_wide 3 Tryz.f3 rfl rfl rfl rfl rfl rfl rfl ⟨rfl, rfl, rfl, rfl, rfl⟩ rfl rfl rfl rfl rfl (by kernel_rfl) Tryz.func3 (by kernel_rfl)
    (of_decide_eq_true (by kernel_rfl)) (by unfold Func.isWrapper; first | (rw [if_pos (by decide +kernel)]; kernel_rfl) | (rw [if_neg (by decide +kernel)]; exact ⟨rfl, rfl⟩))
    (fun os started H enc _ => lifted os started H enc)
theorem plain (f : FuncId) (fn : Func) (hf : Tryz.pinned.checked.prog.funcNamed "pandect/pandectlaw44.ProofMatchesReference" = some f) (hfn : Tryz.pinned.checked.prog.funcs[f]? = some fn) :
    false = Tryz.pinned.checked.prog.looks [] ∧ ∀ (j : Nat) t, fn.params[j]? = some t → Tryz.pinned.checked.prog.wantsStandIn t = false := by
  obtain rfl : f = 3 := Option.some.inj ((show Tryz.prog.funcNamed "pandect/pandectlaw44.ProofMatchesReference" = some 3 by kernel_rfl).symm.trans hf) |>.symm
  obtain rfl : fn = Tryz.f3 := (Option.some.inj (Tryz.func3.symm.trans hfn)).symm
  refine ⟨by kernel_rfl, fun j t ht => ?_⟩
  have hm : t ∈ Tryz.f3.params.toList := by simpa using Array.mem_of_getElem? ht
  have hall : (Tryz.f3.params.toList.all fun u => !Tryz.prog.wantsStandIn u) = true := by kernel_rfl
  exact (show Tryz.prog.wantsStandIn t = false by simpa using List.all_eq_true.1 hall t hm)
theorem card : Rows.ProofMatchesReferenceCardSaid :=
  Claim7.holds_tied_plain_at .later [] _ _ _ _ said (fun _ h => by cases h) (by kernel_rfl) (fun _ h => by cases h) proofMatchesReference_row_tie rfl ⟨rfl, rfl⟩ (by kernel_rfl) rfl plain (by kernel_rfl)
#print axioms card
end Go.Proofs.YtobhpeockinnjaaGreatDoor.RefP

