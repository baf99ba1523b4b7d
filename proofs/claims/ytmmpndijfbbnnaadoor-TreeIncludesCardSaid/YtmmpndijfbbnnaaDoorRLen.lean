/- length of the reference: how long a path is. -/
import Derived.Test.YtmmpndijfbbnnaaDoorTree2
import Derived.Test.YtmmpndijfbbnnaaDoorRoot
namespace Go.Proofs.YtmmpndijfbbnnaaDoor
open Go Go.RowKit Go.Sort
theorem length_le (n i : Nat) : Dg.length n i ≤ n := by
  unfold Dg.length
  suffices h : ∀ f n i, Dg.lengthF f n i ≤ f from h n n i
  intro f
  induction f with
  | zero => intro n i; exact Nat.le_refl _
  | succ f ih =>
    intro n i
    rw [Dg.lengthF]
    have h1 := ih (Dg.half n) i
    have h2 := ih (n - Dg.half n) (i - Dg.half n)
    split
    · omega
    · split <;> omega
set_option maxHeartbeats 400000 in
theorem rlength_any (n : Nat) : ∀ (i : Nat) (r : Nat) (w : World), Dg.length n i = r → 1 ≤ n → i < n → n ≤ 1048576 →
    Calls Tryd.prog 59 #[.int .i64 n, .int .i64 i] w fun e w' => e = .returned (.int .i64 r) ∧ w = w' := by
  induction n using Nat.strongRecOn with
  | _ n ih =>
  intro i r w hr h1 hi hn
  go_enter Tryd.func59, Tryd.ntmps59
  by_cases hone : n = 1
  · subst hone
    rw [Dg.length_one _ _ (Nat.le_refl _)] at hr
    subst hr
    go_wp2
    go_ret
    exact ⟨rfl, rfl⟩
  · have g1 := Dg.half_pos n
    have g2 := Dg.half_lt n (by omega)
    have pf := hide (fun h => Dg.length_fst n i (by omega) h)
    have ps := hide (fun h => Dg.length_snd n i (by omega) h)
    have l1 := length_le (Dg.half n) i
    have l2 := length_le (n - Dg.half n) (i - Dg.half n)
    have i1 := hide (fun (W : World) (h : i < Dg.half n) => ih (Dg.half n) g2 i _ W rfl g1 h (by omega))
    have g4 : 1 ≤ n - Dg.half n := by omega
    have i2 := hide (fun (W : World) (h : i - Dg.half n < n - Dg.half n) => ih (n - Dg.half n) (by omega) (i - Dg.half n) _ W rfl g4 h (by omega))
    clear ih
    have HR := hide hr; clear hr
    go_wp2_with fail
    refine (rhalf_any n (by omega) _).mono ?_
    rintro e w1 ⟨rfl, rfl⟩
    generalize Dg.half n = m at *
    generalize Dg.length m i = r1 at *
    generalize Dg.length (n - m) (i - m) = r2 at *
    by_cases him : i < m
    · have hrr := HR.out
      rw [pf.out him] at hrr
      subst hrr
      go_wp2_with fail
      refine (i1.out _ him).mono ?_
      rintro e w1 ⟨rfl, rfl⟩
      go_wp2
      go_ret
      exact ⟨ret_int (by go_num), rfl⟩
    · have hrr := HR.out
      rw [ps.out him] at hrr
      subst hrr
      have c1 : (n : Int) - (m : Int) = ((n - m : Nat) : Int) := by omega
      have c2 : (i : Int) - (m : Int) = ((i - m : Nat) : Int) := by omega
      go_wp2_with fail
      refine (i2.out _ (by omega)).mono ?_
      rintro e w1 ⟨rfl, rfl⟩
      go_wp2
      go_ret
      exact ⟨ret_int (by go_num), rfl⟩
end Go.Proofs.YtmmpndijfbbnnaaDoor
