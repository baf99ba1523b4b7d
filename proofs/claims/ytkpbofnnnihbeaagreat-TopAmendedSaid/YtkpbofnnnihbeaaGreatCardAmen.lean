/- Proves that, however the messages of two chambers go, each chamber agrees on the same clauses, and the conference joins them to the same list, with the same clashes, patches and clauses left out; these patches are possible one after the other, and each open clause is among them or left out. Conditions: those of the given row. -/
import Derived.Test.YtkpbofnnnihbeaaGreatRows
import Derived.Test.YtkpbofnnnihbeaaGreatTA7
namespace Go.Proofs.YtkpbofnnnihbeaaGreat.Amen
open Go Go.RowKit Go.ChangeShapes Go.WideShapes Go.ChangeAt Go.WideMaps Go.WideElems
open Go.ChangeMaps (open_string)
theorem own : ownKnob Tryz.prog.godebug = none := by kernel_rfl
set_option maxRecDepth 100000 in
theorem lifted (os : Os) (started : os.Started) (H : Type) (enc : TypeId × Value → H) :
    ReturnsInHanded {} Tryz.checked os 3 .any (fun w args => (Rows.topAmendedSpec.pre enc Tryz.prog Tryz.f3 Rows.topAmendedRow.domain false w args ∧ laidMetH Tryz.prog Rows.topAmendedRow.laid w) ∧ sizedMet enc Tryz.prog Tryz.f3 (OpenSpec.ofChange Rows.topAmendedSpec) false w args)
      (Rows.topAmendedSpec.post enc Tryz.prog Tryz.f3 false true false false) := by
  refine handed_shaped (C := Tryz.checked) (X := fun w _ => laidMetH Tryz.prog Rows.topAmendedRow.laid w) (fun _ _ _ hh h => h.of_heap hh) own started (by kernel_rfl) Tryz.func3
    (ChangeSpec.witness_shaped (enc := enc) (C := Tryz.checked) (os := os) (X := fun w _ => laidMetH Tryz.prog Rows.topAmendedRow.laid w) false (World.laidAll Tryz.prog os Rows.topAmendedRow.laid) #[.agg #[.slice none 0 0], .int .u8 0, .slice none 0 0, .slice none 0 0, .slice none 0 0, .slice none 0 0] 8 (World.laidAll_os _ _ _)
      (World.shaped_of_ZipB (by kernel_rfl) (by kernel_rfl)) (by kernel_rfl) (by kernel_rfl) (by kernel_rfl)
      (by rw [MakeChecks.laidMetH_plain _ _ _ (by kernel_rfl)]; exact laidMet_laidAll _ (by kernel_rfl) (by kernel_rfl))) ?_
  intro W base args ds gs before hval0 hW hc hsz0 hL hsh _
  have hval : ∀ (j : Nat) t v, Tryz.f3.params[j]? = some t → args[j]? = some v → Value.okWide Tryz.prog W .any base t v := hval0
  have hW' := hW
  obtain ⟨p, q, hA0, hV, rfl, _, _⟩ := hW
  have hA : DataW.TrodAll enc Tryz.prog W 0 (fun _ => true) true Tryz.f3.params.toList args.toList ds p := hA0
  rw [Tryz.params3] at hA hval
  obtain ⟨v0, vs0, d0, ds0, p0, q0, hargs, rfl, rfl, h0, r0⟩ := trodAll_cons hA
  obtain ⟨v1, vs1, d1, ds1, p1, q1, rfl, rfl, rfl, h1, r1⟩ := trodAll_cons r0
  obtain ⟨v2, vs2, d2, ds2, p2, q2, rfl, rfl, rfl, h2, r2⟩ := trodAll_cons r1
  obtain ⟨v3, vs3, d3, ds3, p3, q3, rfl, rfl, rfl, h3, r3⟩ := trodAll_cons r2
  obtain ⟨v4, vs4, d4, ds4, p4, q4, rfl, rfl, rfl, h4, r4⟩ := trodAll_cons r3
  obtain ⟨v5, vs5, d5, ds5, p5, q5, rfl, rfl, rfl, h5, r5⟩ := trodAll_cons r4
  obtain ⟨rfl, rfl, rfl⟩ := trodAll_nil r5
  obtain rfl : args = #[v0, v1, v2, v3, v4, v5] := by cases args; simp_all
  obtain ⟨rfl, rfl⟩ := trodVars_none hV
  have hw2 : ∀ x ∈ d2.weights Tryz.prog 25, x ≤ reachBytes := fun x hx => of_decide_eq_true (List.all_eq_true.1 hsz0 x (DataW.weights_mem_each (j := 2) (by rw [Tryz.params3]; rfl) rfl x hx))
  have hw3 : ∀ x ∈ d3.weights Tryz.prog 25, x ≤ reachBytes := fun x hx => of_decide_eq_true (List.all_eq_true.1 hsz0 x (DataW.weights_mem_each (j := 3) (by rw [Tryz.params3]; rfl) rfl x hx))
  obtain ⟨A0, c0, l0, rfl, hl0, hw0, hI0, hc0⟩ := open_code (hval 0 24 v0 rfl rfl) h0
  obtain ⟨s, rfl, hs⟩ := open_u8 (hval 1 5 v1 rfl rfl) h1
  obtain ⟨A2, c2, l2, rfl, hq2, hR2, hz2⟩ := open_acts (hval 2 25 v2 rfl rfl) h2 hw2
  obtain ⟨A3, c3, l3, rfl, hq3, hR3, hz3⟩ := open_acts (hval 3 25 v3 rfl rfl) h3 hw3
  obtain ⟨A4, c4, l4, rfl, hq4, hR4⟩ := open_ways (hval 4 26 v4 rfl rfl) h4
  obtain ⟨A5, c5, l5, rfl, hq5, hR5⟩ := open_ways (hval 5 26 v5 rfl rfl) h5
  refine (law_amended l0 A0 l0.length c0 rfl hc0 hl0 hw0 s hs l2 A2 l2.length c2 rfl hz2 (fun a ha => (hq2 a ha).1) (fun a ha => (hq2 a ha).2) l3 A3 l3.length c3 rfl hz3 (fun a ha => (hq3 a ha).1) (fun a ha => (hq3 a ha).2) l4 A4 l4.length c4 rfl hq4 l5 A5 l5.length c5 rfl hq5 W hI0 hR2 hR3 hR4 hR5 (maxJ_of hsh)).mono fun e W' ⟨he, hb⟩ => ?_
  subst he
  exact ⟨_, rfl, law_post (by kernel_rfl) rfl (tb := 4) (by kernel_rfl) Tryz.underlying4 (by kernel_rfl) hW' rfl hb⟩
theorem lifted2 (os : Os) (started : os.Started) (H : Type) (enc : TypeId × Value → H) :
    ReturnsInHanded Rows.topAmendedRow.assume Tryz.pinned.checked os 3 .any (OpenClaim.pre enc Tryz.pinned.checked.prog Tryz.f3 (OpenSpec.ofChange Rows.topAmendedSpec) Rows.topAmendedRow)
      (Rows.topAmendedSpec.post enc Tryz.pinned.checked.prog Tryz.f3 Rows.topAmendedRow.apart Rows.topAmendedRow.fresh Rows.topAmendedRow.handsOn Rows.topAmendedRow.again) := by
  have h := lifted os started H enc
  have e : (fun (w : World) (args : Array Value) => (Rows.topAmendedSpec.pre enc Tryz.prog Tryz.f3 Rows.topAmendedRow.domain false w args ∧ laidMetH Tryz.prog Rows.topAmendedRow.laid w) ∧ sizedMet enc Tryz.prog Tryz.f3 (OpenSpec.ofChange Rows.topAmendedSpec) false w args) = OpenClaim.pre enc Tryz.pinned.checked.prog Tryz.f3 (OpenSpec.ofChange Rows.topAmendedSpec) Rows.topAmendedRow := by
    funext w args
    exact propext ⟨fun ⟨⟨a, _⟩, b⟩ => ⟨a, b⟩, fun ⟨a, b⟩ => ⟨⟨a, (show laidMetH Tryz.prog [] w from ⟨[], by first | exact .nil | rfl | trivial | simp [DataW.LaidVars], List.nodup_nil, fun b off h => absurd h (by simp)⟩)⟩, b⟩⟩
  rw [e] at h
  exact h
theorem said : Rows.TopAmendedSaid :=
  OpenClaim.holds_of_wide 3 Tryz.f3 rfl rfl rfl rfl rfl rfl rfl ⟨rfl, rfl, rfl, rfl, rfl⟩ rfl rfl rfl rfl rfl (by kernel_rfl) Tryz.func3 (by kernel_rfl)
    (of_decide_eq_true (by kernel_rfl)) (by unfold Func.isWrapper; first | (rw [if_pos (by decide +kernel)]; kernel_rfl) | (rw [if_neg (by decide +kernel)]; exact ⟨rfl, rfl⟩))
    (fun os started H enc _ => lifted2 os started H enc)
#print axioms said
end Go.Proofs.YtkpbofnnnihbeaaGreat.Amen

