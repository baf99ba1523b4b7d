/- Proves that of two codes of which there is a draft, its patches, group by group in whatever order of the groups, make the second code of the first one; and that, where each of them can be taken back, taking all back makes the first code again. Conditions: those of the given row. -/
import Derived.Test.YtgmimhgeigbpkaaRows
import Derived.Test.YtgmimhgeigbpkaaDA7
namespace Go.Proofs.Ytgmimhgeigbpkaa.Draf
open Go Go.RowKit Go.ChangeShapes Go.WideShapes Go.ChangeAt Go.WideMaps Go.WideElems
open Go.ChangeMaps (open_string)
theorem own : ownKnob Try.prog.godebug = none := by kernel_rfl
set_option maxRecDepth 100000 in
theorem lifted (os : Os) (started : os.Started) (H : Type) (enc : TypeId × Value → H) :
    ReturnsInHanded {} Try.checked os 3 .any (fun w args => (Rows.topDraftsSpec.pre enc Try.prog Try.f3 Rows.topDraftsRow.domain false w args ∧ laidMetH Try.prog Rows.topDraftsRow.laid w) ∧ sizedMet enc Try.prog Try.f3 (OpenSpec.ofChange Rows.topDraftsSpec) false w args)
      (Rows.topDraftsSpec.post enc Try.prog Try.f3 false true false false) := by
  refine returnsInHanded_of_change_and (C := Try.checked) (X := fun w _ => laidMetH Try.prog Rows.topDraftsRow.laid w) (fun _ _ _ hh h => h.of_heap hh) own started (by kernel_rfl) Try.func3
    (ChangeSpec.witness_shaped (enc := enc) (C := Try.checked) (os := os) (X := fun w _ => laidMetH Try.prog Rows.topDraftsRow.laid w) false (World.laidAll Try.prog os Rows.topDraftsRow.laid) #[.agg #[.slice none 0 0], .agg #[.slice none 0 0], .slice none 0 0] 8 (World.laidAll_os _ _ _)
      (World.shaped_of_ZipB (by kernel_rfl) (by kernel_rfl)) (by kernel_rfl) (by kernel_rfl) (by kernel_rfl)
      (by rw [MakeChecks.laidMetH_plain _ _ _ (by kernel_rfl)]; exact laidMet_laidAll _ (by kernel_rfl) (by kernel_rfl))) ?_
  intro W base args ds gs before hval0 hW hc _ hL _
  have hval : ∀ (j : Nat) t v, Try.f3.params[j]? = some t → args[j]? = some v → Value.okWide Try.prog W .any base t v := hval0
  have hW' := hW
  obtain ⟨p, q, hA0, hV, rfl, _, _⟩ := hW
  have hA : DataW.TrodAll enc Try.prog W 0 (fun _ => true) true Try.f3.params.toList args.toList ds p := hA0
  rw [Try.params3] at hA hval
  obtain ⟨v0, vs0, d0, ds0, p0, q0, hargs, rfl, rfl, h0, r0⟩ := trodAll_cons hA
  obtain ⟨v1, vs1, d1, ds1, p1, q1, rfl, rfl, rfl, h1, r1⟩ := trodAll_cons r0
  obtain ⟨v2, vs2, d2, ds2, p2, q2, rfl, rfl, rfl, h2, r2⟩ := trodAll_cons r1
  obtain ⟨rfl, rfl, rfl⟩ := trodAll_nil r2
  obtain rfl : args = #[v0, v1, v2] := by cases args; simp_all
  obtain ⟨rfl, rfl⟩ := trodVars_none hV
  obtain ⟨A0, c0, l0, rfl, hl0, hw0, hI0, hc0⟩ := open_code (hval 0 24 v0 rfl rfl) h0
  obtain ⟨A1, c1, l1, rfl, hl1, hw1, hI1, hc1⟩ := open_code (hval 1 24 v1 rfl rfl) h1
  obtain ⟨A2, c2, l2, rfl, hl2, hu2, hR2⟩ := open_u8s (hval 2 25 v2 rfl rfl) h2
  refine (law_drafts l0 l1 A0 A1 l0.length l1.length c0 c1 rfl rfl hl0 hl1 hc0 hc1 hw0 hw1 l2 A2 l2.length c2 rfl hl2 hu2 W hI0 hI1 hR2).mono fun e W' ⟨he, hb⟩ => ?_
  subst he
  exact ⟨_, rfl, law_post (by kernel_rfl) rfl (tb := 4) (by kernel_rfl) Try.underlying4 (by kernel_rfl) hW' rfl hb⟩
theorem lifted2 (os : Os) (started : os.Started) (H : Type) (enc : TypeId × Value → H) :
    ReturnsInHanded Rows.topDraftsRow.assume Try.pinned.checked os 3 .any (OpenClaim.pre enc Try.pinned.checked.prog Try.f3 (OpenSpec.ofChange Rows.topDraftsSpec) Rows.topDraftsRow)
      (Rows.topDraftsSpec.post enc Try.pinned.checked.prog Try.f3 Rows.topDraftsRow.apart Rows.topDraftsRow.fresh Rows.topDraftsRow.handsOn Rows.topDraftsRow.again) := by
  have h := lifted os started H enc
  have e : (fun (w : World) (args : Array Value) => (Rows.topDraftsSpec.pre enc Try.prog Try.f3 Rows.topDraftsRow.domain false w args ∧ laidMetH Try.prog Rows.topDraftsRow.laid w) ∧ sizedMet enc Try.prog Try.f3 (OpenSpec.ofChange Rows.topDraftsSpec) false w args) = OpenClaim.pre enc Try.pinned.checked.prog Try.f3 (OpenSpec.ofChange Rows.topDraftsSpec) Rows.topDraftsRow := by
    funext w args
    exact propext ⟨fun ⟨⟨a, _⟩, b⟩ => ⟨a, b⟩, fun ⟨a, b⟩ => ⟨⟨a, (show laidMetH Try.prog [] w from ⟨[], by first | exact .nil | rfl | trivial | simp [DataW.LaidVars], List.nodup_nil, fun b off h => absurd h (by simp)⟩)⟩, b⟩⟩
  rw [e] at h
  exact h
theorem said : Rows.TopDraftsSaid :=
  OpenClaim.holds_of_wide 3 Try.f3 rfl rfl rfl rfl rfl rfl rfl ⟨rfl, rfl, rfl, rfl, rfl⟩ rfl rfl rfl rfl rfl (by kernel_rfl) Try.func3 (by kernel_rfl)
    (of_decide_eq_true (by kernel_rfl)) (by unfold Func.isWrapper; first | (rw [if_pos (by decide +kernel)]; kernel_rfl) | (rw [if_neg (by decide +kernel)]; exact ⟨rfl, rfl⟩))
    (fun os started H enc _ => lifted2 os started H enc)
#print axioms said
end Go.Proofs.Ytgmimhgeigbpkaa.Draf

