/- The closure of Extends of package tree. -/
import Derived.Test.YtmmpndijfbbnnaaDoorCheck2
namespace Go.Proofs.YtmmpndijfbbnnaaDoor
open Go Go.RowKit Go.Sort
theorem long_le (n : Nat) : ∀ (m : Nat) (w : Bool), 1 ≤ m → m ≤ n → Dg.long n m w ≤ n := by
  induction n using Nat.strongRecOn with
  | _ n ih =>
  intro m w h1 hm
  by_cases he : m = n
  · subst he; rw [Dg.long_all]; split <;> omega
  · have g1 := Dg.half_pos n
    have g2 := Dg.half_lt n (by omega)
    by_cases hh : m ≤ Dg.half n
    · rw [Dg.long_fst n m w h1 (by omega) hh]
      have := ih (Dg.half n) g2 m w h1 hh
      omega
    · rw [Dg.long_snd n m w (by omega) hh]
      have := ih (n - Dg.half n) (by omega) (m - Dg.half n) false (by omega) (by omega)
      omega
theorem headD16 {r : List ByteArray} (h : ∀ s ∈ r, s.size ≤ 16) : (r.headD ⟨#[]⟩).size ≤ 16 := by
  cases r with
  | nil => decide
  | cons a r => exact h a (List.mem_cons_self ..)
theorem bothW_sz (w : List Bool) : ∀ (whole : Bool) (old : ByteArray) (r : List ByteArray), old.size ≤ 16 → (∀ s ∈ r, s.size ≤ 16) → (Dg.bothW w whole old r).1.size ≤ 16 ∧ (Dg.bothW w whole old r).2.size ≤ 16 := by
  induction w with
  | nil =>
    intro whole old r ho hr
    rw [Dg.bothW]
    split
    · exact ⟨ho, ho⟩
    · exact ⟨headD16 hr, headD16 hr⟩
  | cons b w ih =>
    intro whole old r ho hr
    have hn : ∀ x y, (Dg.nodeB x y).size ≤ 16 := fun x y => by rw [Dg.nodeB, listB_size]; decide
    cases b with
    | true => exact ⟨(ih _ _ _ ho fun s hs => hr s (List.mem_of_mem_tail hs)).1, hn _ _⟩
    | false => exact ⟨hn _ _, hn _ _⟩
theorem both_sz (n m : Nat) (wh : Bool) (old : ByteArray) (p : List ByteArray) (k : Nat) (ho : old.size = 16) (hz : ∀ s ∈ p, s.size = 16) : (Dg.both n m wh old (p.take k).reverse).1.size ≤ 16 ∧ (Dg.both n m wh old (p.take k).reverse).2.size ≤ 16 :=
  bothW_sz _ _ _ _ (by omega) fun s hs => by rw [hz s (List.mem_of_mem_take (List.mem_reverse.1 hs))]; decide
theorem ret_pair {a b c d : ByteArray} (h : a = c) (h' : b = d) : Ending.returned (.tuple #[.string a, .string b]) = .returned (.tuple #[.string c, .string d]) := by rw [h, h']
theorem flag_one (sh : Bool) (k : Nat) : (sh || decide (k = 0)) = (sh || decide (k < 1)) := by
  cases sh with
  | true => rfl
  | false => rw [Bool.false_or, Bool.false_or]; exact decide_eq_decide.2 (by omega)
theorem flag_no (sh : Bool) (k : Nat) : (sh || decide (k < 0)) = sh := by simp
theorem PSt.drewN {w : World} {bl bp : Nat} {A : Option Addr} {c n : Nat} {sh : Bool} (h : PSt w bl bp A c n sh) (q : Nat) : PSt (w.drewN q) bl bp A c n sh := ⟨h.l, h.lf, h.p0, h.p1, h.pf⟩
set_option maxRecDepth 100000 in
set_option maxHeartbeats 1000000 in
theorem both_any (B bl bp bf bP bu c : Nat) (A : Option Addr) (old : ByteArray) (p : List ByteArray) (hz : ∀ s ∈ p, s.size = 16) (hpc : p.length ≤ c) (hp : p.length ≤ 1048576) (hold : old.size = 16) (n : Nat) :
    ∀ (m k K : Nat) (wh sh S : Bool) (R1 R2 : ByteArray) (w : World), 1 ≤ m → n ≤ 1000000 → m ≤ n → k ≤ p.length → Dg.both n m wh old (p.take k).reverse = (R1, R2) → k - Dg.long n m wh = K → (sh || decide (k < Dg.long n m wh)) = S →
    Env w → Blk w B bl bp bf bP bu → PSt w bl bp A c k sh → CEnv w 62 bf bP bu bp (.string old) → Strs w B A p →
    Calls Tryd.prog 62 #[.int .i64 n, .int .i64 m, .bool wh, .pointer (some ⟨bf, 0, none⟩), .pointer (some ⟨bP, 0, none⟩), .pointer (some ⟨bu, 0, none⟩)] w fun e w' => e = .returned (.tuple #[.string R1, .string R2]) ∧ PSt w' bl bp A c K S ∧ Mut bl bp w w' := by
  induction n using Nat.strongRecOn with
  | _ n ih =>
  intro i k K wh sh S R1 R2 w h1 hn hi hk hR hK hS he hb hst hce hst2
  have HR := hide hR; have HK := hide hK; have HS := hide hS; clear hR hK hS
  have HZ := hide hz; clear hz
  have HST := hide hst; clear hst
  have HCE := hide hce
  obtain ⟨hcf, hcP, hcu⟩ := hce
  go_enter Tryd.func62, Tryd.ntmps62
  by_cases hone : i = n
  · subst hone
    have e1 := HR.out; have e2 := HK.out; have e3 := HS.out
    rw [Dg.both_all] at e1
    rw [Dg.long_all] at e2 e3
    cases wh with
    | true =>
      rw [if_pos rfl] at e1 e2 e3
      rw [flag_no] at e3
      rw [Nat.sub_zero] at e2
      have x1 := hide (congrArg Prod.fst e1)
      have x2 := hide (congrArg Prod.snd e1)
      subst e2 e3
      clear e1 HR HK HS ih
      go_wp2_with fail
      go_quiet (fail)
      go_wp2
      go_ret2
      exact ⟨ret_pair x1.out x2.out, HST.out.drewN _, (Mut.refl _ _ _).drewN _⟩
    | false =>
      rw [if_neg (by decide)] at e1 e2 e3
      rw [← flag_one] at e3
      have x1 := hide (congrArg Prod.fst e1)
      have x2 := hide (congrArg Prod.snd e1)
      have E2 := hide e2; have E3 := hide e3
      clear e1 e2 e3 HR HK HS ih
      go_wp2_with fail
      refine (next_any bl bp A c k sh p B _ K S rfl E2.out E3.out _ HST.out hb.lp hk hpc hp HZ.out hst2).mono ?_
      rintro e w1 ⟨rfl, HQ, HM⟩
      have HQ := hide HQ; have HM := hide HM
      generalize (p.take k).reverse.headD ⟨#[]⟩ = D at *
      go_wp2
      go_ret2
      exact ⟨ret_pair x1.out x2.out, HQ.out, HM.out⟩
  · have g1 := Dg.half_pos n
    have g2 := Dg.half_lt n (by omega)
    have n1 : ¬ ((i : Int) = n) := by omega
    have n2 : ((i : Int) == (n : Int)) = false := by simpa using n1
    have pf := hide (fun h => (Dg.long_fst n i wh h1 (by omega) h))
    have ps := hide (fun h => (Dg.long_snd n i wh (by omega) h))
    have uf := hide (fun h => (Dg.both_fst n i wh old (p.take k).reverse h1 (by omega) h))
    have us := hide (fun h => (Dg.both_snd n i wh old (p.take k).reverse (by omega) h))
    have g4 : 1 ≤ n - Dg.half n := by omega
    have IH := hide ih; clear ih
    have z1 := both_sz (Dg.half n) i wh old p (k - 1) hold HZ.out
    have z2 := both_sz (n - Dg.half n) (i - Dg.half n) false old p (k - 1) hold HZ.out
    have zd := head16 k HZ.out
    rw [take_tail p k hk] at uf us
    generalize hD : (p.take k).reverse.headD ⟨#[]⟩ = D at *
    have HD := hide hD; clear hD
    have FS := hide (flag_step sh k)
    generalize hS1 : (sh || decide (k = 0)) = S1 at *
    have HS1 := hide hS1; clear hS1
    generalize hm : Dg.half n = m at *
    have HM0 := hide hm; clear hm
    go_upto_region 6 with (fail)
    go_cut [12, 13] (fun kv dv wx => kv = .int .i64 m ∧ dv = .string D ∧ PSt wx bl bp A c (k - 1) S1 ∧ Mut bl bp w wx)
    case first =>
      go_region_with (first
        | (go_at_call 45; refine (half_any n (by omega) _).mono ?_; rintro e w1 ⟨rfl, rfl⟩; rw [HM0.out])
        | (go_at_call 57; refine (next_any bl bp A c k sh p B D (k - 1) S1 HD.out rfl HS1.out _ HST.out.drew hb.lp hk hpc hp HZ.out hst2.drew).mono ?_; rintro e w1 ⟨rfl, HQ, HM⟩; have HQ := hide HQ; have HM := hide HM.drew))
      all_goals go_wp2_with fail
      all_goals go_meet
      all_goals exact ⟨rfl, rfl, HQ.out, HM.out⟩
    case rest =>
      obtain ⟨rfl, rfl, hq, hmw⟩ := hcut
      have he2 := he.mut hb hmw
      have hb2 := hb.more hmw.size
      have hce2 := HCE.out.mut hb hmw
      have hst3 := hst2.mut hb hmw
      have HMW := hide hmw
      have HQ := hide hq; clear hq hmw hcf hcP hcu HCE HST hst2 he
      have HCE := hide hce2
      obtain ⟨hcf, hcP, hcu⟩ := hce2
      by_cases him : i ≤ m
      · have e1 := HR.out.symm.trans (uf.out him)
        have e2 := pf.out him
        have x1 := hide (congrArg Prod.fst e1)
        have x2 := hide (congrArg Prod.snd e1)
        have hk2 := HK.out
        have hs2 := HS.out
        rw [e2] at hk2 hs2
        rw [← FS.out] at hs2
        have hk3 := hide (show k - 1 - Dg.long m i wh = K by omega); clear hk2 e1 e2
        have hs3 := hide hs2; clear hs2
        have i1 := hide (IH.out m g2 i (k - 1) K wh S1 S (Dg.both m i wh old (p.take (k - 1)).reverse).1 (Dg.both m i wh old (p.take (k - 1)).reverse).2 wc h1 (by omega) him (by omega) rfl hk3.out hs3.out he2 hb2 HQ.out HCE.out hst3)
        generalize (Dg.both m i wh old (p.take (k - 1)).reverse).1 = X1 at *
        generalize (Dg.both m i wh old (p.take (k - 1)).reverse).2 = X2 at *
        clear IH
        go_wp2_with fail
        refine i1.out.mono ?_
        rintro e w1 ⟨rfl, hq1, hm1⟩
        have he3 := he2.mut hb2 hm1
        have hb3 := hb2.more hm1.size
        have HQ1 := hide hq1; have HM1 := hide hm1; clear hq1 hm1
        go_wp2_with fail
        refine (node_any X2 D (by omega) (by omega) _ he3).mono ?_
        rintro e w2 ⟨rfl, hb4⟩
        go_wp2
        go_ret2
        exact ⟨ret_pair x1.out.symm x2.out.symm, HQ1.out.below hb3.ll hb3.pl hb4, (HMW.out.trans HM1.out).next hb4⟩
      · have e1 := HR.out.symm.trans (us.out him)
        have e2 := ps.out him
        have x1 := hide (congrArg Prod.fst e1)
        have x2 := hide (congrArg Prod.snd e1)
        have hk2 := HK.out
        have hs2 := HS.out
        rw [e2] at hk2 hs2
        rw [← FS.out] at hs2
        have hk3 := hide (show k - 1 - Dg.long (n - m) (i - m) false = K by omega); clear hk2 e1 e2
        have hs3 := hide hs2; clear hs2
        have i1 := hide (IH.out (n - m) (by omega) (i - m) (k - 1) K false S1 S (Dg.both (n - m) (i - m) false old (p.take (k - 1)).reverse).1 (Dg.both (n - m) (i - m) false old (p.take (k - 1)).reverse).2 wc (by omega) (by omega) (by omega) (by omega) rfl hk3.out hs3.out he2 hb2 HQ.out HCE.out hst3)
        generalize (Dg.both (n - m) (i - m) false old (p.take (k - 1)).reverse).1 = X1 at *
        generalize (Dg.both (n - m) (i - m) false old (p.take (k - 1)).reverse).2 = X2 at *
        have c1 : (n : Int) - (m : Int) = ((n - m : Nat) : Int) := by omega
        have c2 : (i : Int) - (m : Int) = ((i - m : Nat) : Int) := by omega
        clear IH
        go_wp2_with fail
        refine i1.out.mono ?_
        rintro e w1 ⟨rfl, hq1, hm1⟩
        have he3 := he2.mut hb2 hm1
        have hb3 := hb2.more hm1.size
        have HQ1 := hide hq1; have HM1 := hide hm1; clear hq1 hm1
        go_wp2_with fail
        refine (node_any D X1 (by omega) (by omega) _ he3).mono ?_
        rintro e w2 ⟨rfl, hb4⟩
        have he4 := he3.next hb4
        go_wp2_with fail
        refine (node_any D X2 (by omega) (by omega) _ he4).mono ?_
        rintro e w3 ⟨rfl, hb5⟩
        go_wp2
        go_ret2
        exact ⟨ret_pair x1.out.symm x2.out.symm, HQ1.out.below hb3.ll hb3.pl (bnext hb4 hb5), (HMW.out.trans HM1.out).next (bnext hb4 hb5)⟩
end Go.Proofs.YtmmpndijfbbnnaaDoor
