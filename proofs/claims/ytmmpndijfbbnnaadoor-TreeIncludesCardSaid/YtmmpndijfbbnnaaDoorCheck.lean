/- Check of package tree: its closure, then itself. -/
import Derived.Test.YtmmpndijfbbnnaaDoorProof
import Derived.Deep.DeepCutAuto
namespace Go.Proofs.YtmmpndijfbbnnaaDoor
open Go Go.RowKit Go.Sort
/-- Where the blocks lie that a proof under way uses. -/
structure Blk (w : World) (B bl bp bf bP bu : Nat) : Prop where
  g : 3 < B
  l : B ≤ bl
  p : B ≤ bp
  lp : bl ≠ bp
  fl : bf ≠ bl
  fp : bf ≠ bp
  Pl : bP ≠ bl
  Pp : bP ≠ bp
  ul : bu ≠ bl
  up : bu ≠ bp
  ll : bl < w.heap.size
  pl : bp < w.heap.size
  ff : bf < w.heap.size
  PP : bP < w.heap.size
  uu : bu < w.heap.size
theorem Blk.more {w w' : World} {B bl bp bf bP bu : Nat} (h : Blk w B bl bp bf bP bu) (hs : w.heap.size ≤ w'.heap.size) : Blk w' B bl bp bf bP bu :=
  ⟨h.g, h.l, h.p, h.lp, h.fl, h.fp, h.Pl, h.Pp, h.ul, h.up, Nat.lt_of_lt_of_le h.ll hs, Nat.lt_of_lt_of_le h.pl hs, Nat.lt_of_lt_of_le h.ff hs, Nat.lt_of_lt_of_le h.PP hs, Nat.lt_of_lt_of_le h.uu hs⟩
theorem Blk.lt {w : World} {B bl bp bf bP bu : Nat} (h : Blk w B bl bp bf bP bu) : B < w.heap.size := Nat.lt_of_le_of_lt h.l h.ll
/-- What the closure has captured. -/
structure CEnv (w : World) (g bf bP bu bp : Nat) (v : Value) : Prop where
  f : w.cell? ⟨bf, 0, none⟩ = some v
  P : w.cell? ⟨bP, 0, none⟩ = some (.pointer (some ⟨bp, 0, none⟩))
  u : w.cell? ⟨bu, 0, none⟩ = some (.func (.func g) #[] #[.pointer (some ⟨bf, 0, none⟩), .pointer (some ⟨bP, 0, none⟩), .pointer (some ⟨bu, 0, none⟩)])
theorem CEnv.mut {w w' : World} {B bl g bf bP bu bp : Nat} {v : Value} (h : CEnv w g bf bP bu bp v) (hb : Blk w B bl bp bf bP bu) (hm : Mut bl bp w w') : CEnv w' g bf bP bu bp v :=
  ⟨(hm.cell (p := ⟨bf, 0, none⟩) hb.ff hb.fl hb.fp).trans h.f, (hm.cell (p := ⟨bP, 0, none⟩) hb.PP hb.Pl hb.Pp).trans h.P, (hm.cell (p := ⟨bu, 0, none⟩) hb.uu hb.ul hb.up).trans h.u⟩
theorem Strs.mut {w w' : World} {B bl bf bP bu bp : Nat} {A : Option Addr} {l : List ByteArray} (h : Strs w B A l) (hb : Blk w B bl bp bf bP bu) (hm : Mut bl bp w w') : Strs w' B A l :=
  h.keep fun p hp => hm.cell (Nat.lt_trans hp hb.lt) (by have := hb.l; omega) (by have := hb.p; omega)
theorem Env.mut {w w' : World} {B bl bf bP bu bp : Nat} (h : Env w) (hb : Blk w B bl bp bf bP bu) (hm : Mut bl bp w w') : Env w' :=
  h.below (hm.toBelow hb.l hb.p (Nat.le_of_lt hb.lt)) hb.g
theorem PSt.drew {w : World} {bl bp : Nat} {A : Option Addr} {c n : Nat} {sh : Bool} (h : PSt w bl bp A c n sh) : PSt w.drew bl bp A c n sh := ⟨h.l, h.lf, h.p0, h.p1, h.pf⟩
theorem Strs.drew {w : World} {B : Nat} {A : Option Addr} {l : List ByteArray} (h : Strs w B A l) : Strs w.drew B A l := h.keep fun _ _ => rfl
theorem Mut.drew {bl bp : Nat} {a b : World} (h : Mut bl bp a.drew b) : Mut bl bp a b := ⟨h.os, h.tape, h.output, h.size, h.block⟩
theorem flag_step (sh : Bool) (k l : Nat) : ((sh || decide (k = 0)) || decide (k - 1 < l)) = (sh || decide (k < 1 + l)) := by
  cases sh with
  | true => rfl
  | false =>
    rw [Bool.false_or, Bool.false_or, Bool.eq_iff_iff]
    simp only [Bool.or_eq_true, decide_eq_true_eq]
    omega
theorem take_tail (p : List ByteArray) (k : Nat) (hk : k ≤ p.length) : (p.take k).reverse.tail = (p.take (k - 1)).reverse := by
  rw [rev_tail, List.take_take, List.length_take]
  congr 2
  omega
theorem head16 {p : List ByteArray} (k : Nat) (hz : ∀ s ∈ p, s.size = 16) : ((p.take k).reverse.headD ⟨#[]⟩).size ≤ 16 := by
  cases h : (p.take k).reverse with
  | nil => decide
  | cons a r =>
    have : a ∈ (p.take k).reverse := by rw [h]; exact List.mem_cons_self ..
    exact Nat.le_of_eq (hz a (List.mem_of_mem_take (List.mem_reverse.1 this)))
theorem up_sz (n i : Nat) (d : ByteArray) (r : List ByteArray) (hd : d.size = 16) : (Dg.up n i d r).size = 16 := by
  by_cases h1 : n ≤ 1
  · rw [Dg.up_one _ _ _ _ h1]; exact hd
  · by_cases hi : i < Dg.half n
    · rw [Dg.up_fst _ _ _ _ (by omega) hi, Dg.nodeB, listB_size]
    · rw [Dg.up_snd _ _ _ _ (by omega) hi, Dg.nodeB, listB_size]
set_option maxHeartbeats 1000000 in
theorem up_any (B bl bp bf bP bu c : Nat) (A : Option Addr) (leaf : ByteArray) (p : List ByteArray) (hz : ∀ s ∈ p, s.size = 16) (hpc : p.length ≤ c) (hp : p.length ≤ 1048576) (hleaf : leaf.size ≤ 1073741824) (n : Nat) :
    ∀ (i k K : Nat) (sh S : Bool) (R : ByteArray) (w : World), 1 ≤ n → n ≤ 1000000 → i < n → k ≤ p.length → Dg.up n i (Dg.leafB leaf) (p.take k).reverse = R → k - Dg.length n i = K → (sh || decide (k < Dg.length n i)) = S →
    Env w → Blk w B bl bp bf bP bu → PSt w bl bp A c k sh → CEnv w 56 bf bP bu bp (.string leaf) → Strs w B A p →
    Calls Tryd.prog 56 #[.int .i64 n, .int .i64 i, .pointer (some ⟨bf, 0, none⟩), .pointer (some ⟨bP, 0, none⟩), .pointer (some ⟨bu, 0, none⟩)] w fun e w' => e = .returned (.string R) ∧ PSt w' bl bp A c K S ∧ Mut bl bp w w' := by
  induction n using Nat.strongRecOn with
  | _ n ih =>
  intro i k K sh S R w h1 hn hi hk hR hK hS he hb hst hce hst2
  have HR := hide hR; have HK := hide hK; have HS := hide hS; clear hR hK hS
  have HZ := hide hz; clear hz
  have HST := hide hst; clear hst
  have HCE := hide hce
  obtain ⟨hcf, hcP, hcu⟩ := hce
  go_enter Tryd.func56, Tryd.ntmps56
  by_cases hone : n = 1
  · subst hone
    have hm := hide (mem2 (a := Dg.sLeaf) (n := 1073741824) (by decide) hleaf)
    go_wp2_with fail
    refine (list_new [Dg.sLeaf, leaf] _ _ 2 _ rfl (len2 _ _) hm.out (Dg.leafB leaf) rfl w he rfl _ rfl).mono ?_
    rintro e w1 ⟨rfl, hb1⟩
    go_wp2
    go_ret
    have e1 := HR.out; have e2 := HK.out; have e3 := HS.out
    rw [Dg.up_one _ _ _ _ (Nat.le_refl _)] at e1
    rw [Dg.length_one _ _ (Nat.le_refl _)] at e2 e3
    refine ⟨ret_str e1, ?_, Mut.below hb1⟩
    have : S = sh := by rw [← e3]; simp
    rw [this, ← e2]
    exact HST.out.below hb.ll hb.pl hb1
  · have g1 := Dg.half_pos n
    have g2 := Dg.half_lt n (by omega)
    have n1 : ¬ ((n : Int) = 1) := by omega
    have pf := hide (fun h => (Dg.length_fst n i (by omega) h))
    have ps := hide (fun h => (Dg.length_snd n i (by omega) h))
    have uf := hide (fun h => (Dg.up_fst n i (Dg.leafB leaf) (p.take k).reverse (by omega) h))
    have us := hide (fun h => (Dg.up_snd n i (Dg.leafB leaf) (p.take k).reverse (by omega) h))
    have g4 : 1 ≤ n - Dg.half n := by omega
    have IH := hide ih; clear ih
    have lh := length_le (Dg.half n) i
    have lh' := length_le (n - Dg.half n) (i - Dg.half n)
    have z1 := up_sz (Dg.half n) i (Dg.leafB leaf) (p.take (k - 1)).reverse (listB_size _)
    have z2 := up_sz (n - Dg.half n) (i - Dg.half n) (Dg.leafB leaf) (p.take (k - 1)).reverse (listB_size _)
    have zd := head16 k HZ.out
    rw [take_tail p k hk] at uf us
    generalize hD : (p.take k).reverse.headD ⟨#[]⟩ = D at *
    have HD := hide hD; clear hD
    have FS := hide (flag_step sh k)
    generalize hS1 : (sh || decide (k = 0)) = S1 at *
    have HS1 := hide hS1; clear hS1
    generalize hm : Dg.half n = m at *
    have HM0 := hide hm; clear hm
    go_upto_region 3 with (fail)
    go_cut [8, 9] (fun kv dv wx => kv = .int .i64 m ∧ dv = .string D ∧ PSt wx bl bp A c (k - 1) S1 ∧ Mut bl bp w wx)
    case first =>
      go_region_with (first
        | (go_at_call 45; refine (half_any n (by omega) _).mono ?_; rintro e w1 ⟨rfl, rfl⟩; rw [HM0.out])
        | (go_at_call 57; refine (next_any bl bp A c k sh p B D (k - 1) S1 HD.out rfl HS1.out _ HST.out.drew hb.lp hk hpc hp HZ.out hst2.drew).mono ?_; rintro e w1 ⟨rfl, HQ, HM⟩; have HQ := hide HQ; have HM := hide HM.drew))
      all_goals go_wp2_with fail
      all_goals go_meet
      all_goals exact ⟨rfl, rfl, HQ.out, HM.out⟩
    case rest =>
      obtain ⟨rfl, rfl, hq, hmw⟩ := hcut
      have he2 := he.mut hb hmw
      have hb2 := hb.more hmw.size
      have hce2 := HCE.out.mut hb hmw
      have hst3 := hst2.mut hb hmw
      have HMW := hide hmw
      have HQ := hide hq; clear hq hmw hcf hcP hcu HCE HST hst2 he
      have HCE := hide hce2
      obtain ⟨hcf, hcP, hcu⟩ := hce2
      by_cases him : i < m
      · have e1 := uf.out him
        have e2 := pf.out him
        have hr := hide (HR.out.symm.trans e1)
        have hk2 := HK.out
        have hs2 := HS.out
        rw [e2] at hk2 hs2
        rw [← FS.out] at hs2
        have hk3 := hide (show k - 1 - Dg.length m i = K by omega); clear hk2 e1 e2
        have hs3 := hide hs2; clear hs2
        have i1 := hide (IH.out m g2 i (k - 1) K S1 S _ wc g1 (by omega) him (by omega) rfl hk3.out hs3.out he2 hb2 HQ.out HCE.out hst3)
        generalize Dg.up m i (Dg.leafB leaf) (p.take (k - 1)).reverse = X at *
        clear IH
        go_wp2_with fail
        refine i1.out.mono ?_
        rintro e w1 ⟨rfl, hq1, hm1⟩
        have he3 := he2.mut hb2 hm1
        have hb3 := hb2.more hm1.size
        have HQ1 := hide hq1; have HM1 := hide hm1; clear hq1 hm1
        go_wp2_with fail
        refine (node_any X D (by omega) (by omega) _ he3).mono ?_
        rintro e w2 ⟨rfl, hb4⟩
        go_wp2
        go_ret
        exact ⟨ret_str hr.out.symm, HQ1.out.below hb3.ll hb3.pl hb4, (HMW.out.trans HM1.out).next hb4⟩
      · have e1 := us.out him
        have e2 := ps.out him
        have hr := hide (HR.out.symm.trans e1)
        have hk2 := HK.out
        have hs2 := HS.out
        rw [e2] at hk2 hs2
        rw [← FS.out] at hs2
        have hk3 := hide (show k - 1 - Dg.length (n - m) (i - m) = K by omega); clear hk2 e1 e2
        have hs3 := hide hs2; clear hs2
        have i1 := hide (IH.out (n - m) (by omega) (i - m) (k - 1) K S1 S _ wc g4 (by omega) (by omega) (by omega) rfl hk3.out hs3.out he2 hb2 HQ.out HCE.out hst3)
        generalize Dg.up (n - m) (i - m) (Dg.leafB leaf) (p.take (k - 1)).reverse = X at *
        have c1 : (n : Int) - (m : Int) = ((n - m : Nat) : Int) := by omega
        have c2 : (i : Int) - (m : Int) = ((i - m : Nat) : Int) := by omega
        clear IH
        go_wp2_with fail
        refine i1.out.mono ?_
        rintro e w1 ⟨rfl, hq1, hm1⟩
        have he3 := he2.mut hb2 hm1
        have hb3 := hb2.more hm1.size
        have HQ1 := hide hq1; have HM1 := hide hm1; clear hq1 hm1
        go_wp2_with fail
        refine (node_any D X (by omega) (by omega) _ he3).mono ?_
        rintro e w2 ⟨rfl, hb4⟩
        go_wp2
        go_ret
        exact ⟨ret_str hr.out.symm, HQ1.out.below hb3.ll hb3.pl hb4, (HMW.out.trans HM1.out).next hb4⟩
end Go.Proofs.YtmmpndijfbbnnaaDoor
