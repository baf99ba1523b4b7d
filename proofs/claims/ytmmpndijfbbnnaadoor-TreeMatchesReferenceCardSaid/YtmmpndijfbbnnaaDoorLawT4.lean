/- The law TreeContinues. -/
import Derived.Test.YtmmpndijfbbnnaaDoorLawT3
import Derived.Test.YtmmpndijfbbnnaaDoorApp2
namespace Go.Proofs.YtmmpndijfbbnnaaDoor
open Go Go.RowKit Go.Sort
theorem extB_parts {old root : ByteArray} {m n : Nat} {p : List ByteArray} (h : extB old m root n p = true) (hm : m ≠ 0) : p.length = Dg.long n m true ∧ (Dg.both n m true old p.reverse).1 = old ∧ (Dg.both n m true old p.reverse).2 = root ∧ (∀ s ∈ p, s.size = 16) := by
  unfold extB at h
  rw [if_neg (by omega)] at h
  simp only [Bool.and_eq_true, decide_eq_true_eq, Int.toNat_natCast] at h
  exact ⟨h.2.2.2.1, h.2.2.2.2.1, h.2.2.2.2.2, allDig_16 h.2.1⟩
set_option maxRecDepth 100000 in
set_option maxHeartbeats 2000000 in
theorem law_continues (A : Option Addr) (c : Nat) (a : List ByteArray) (A' : Option Addr) (c' : Nat) (l : List ByteArray) (A2 : Option Addr) (c2 : Nat) (p : List ByteArray) (w : World) (he : Env w) (hl : a.length ≤ 9223372036854775807) (hls : ∀ s ∈ a, s.size ≤ 9223372036854775807) (hS : Strs w w.heap.size A a) (hc : a.length ≤ c)
    (hl' : l.length ≤ 9223372036854775807) (hls' : ∀ s ∈ l, s.size ≤ 9223372036854775807) (hS' : Strs w w.heap.size A' l) (hc' : l.length ≤ c') (hl2 : p.length ≤ 9223372036854775807) (hls2 : ∀ s ∈ p, s.size ≤ 9223372036854775807) (hS2 : Strs w w.heap.size A2 p) (hc2 : p.length ≤ c2) :
    Calls Tryd.prog 8 #[.slice A a.length c, .slice A' l.length c', .slice A2 p.length c2] w fun e w' => e = .returned (.bool true) ∧ Below w.heap.size w w' := by
  have HS := hide hls; have HS' := hide hls'; have HS2 := hide hls2; clear hls hls' hls2
  go_enter Tryd.func8, Tryd.ntmps8
  go_wp2_with fail
  refine (head_any w he).mono ?_
  rintro e w1 ⟨rfl, hb⟩
  go_wp2_with fail
  cases hf : few20 a with
  | false =>
    refine (few2_of A c _ a false rfl hf _ hl HS.out (keepS hS hb)).mono ?_
    rintro e w2 ⟨rfl, rfl⟩
    clear hf
    go_wp2
    go_ret
    exact ⟨rfl, hb⟩
  | true =>
    refine (few2_of A c _ a true rfl hf _ hl HS.out (keepS hS hb)).mono ?_
    rintro e w2 ⟨rfl, rfl⟩
    obtain ⟨f1, f2⟩ := few20_bounds hf
    have F := hide f2; clear hf f2
    go_wp2_with fail
    cases hf : few20 l with
    | false =>
      refine (few2_of A' c' _ l false rfl hf _ hl' HS'.out (keepS hS' hb)).mono ?_
      rintro e w2 ⟨rfl, rfl⟩
      clear hf
      go_wp2
      go_ret
      exact ⟨rfl, hb⟩
    | true =>
      refine (few2_of A' c' _ l true rfl hf _ hl' HS'.out (keepS hS' hb)).mono ?_
      rintro e w2 ⟨rfl, rfl⟩
      obtain ⟨f1', f2⟩ := few20_bounds hf
      have F' := hide f2; clear hf f2
      go_wp2_with fail
      cases hf : few20 p with
      | false =>
        refine (few2_of A2 c2 _ p false rfl hf _ hl2 HS2.out (keepS hS2 hb)).mono ?_
        rintro e w2 ⟨rfl, rfl⟩
        clear hf
        go_wp2
        go_ret
        exact ⟨rfl, hb⟩
      | true =>
        refine (few2_of A2 c2 _ p true rfl hf _ hl2 HS2.out (keepS hS2 hb)).mono ?_
        rintro e w2 ⟨rfl, rfl⟩
        obtain ⟨f12, f2⟩ := few20_bounds hf
        have F2 := hide f2; clear hf f2
        by_cases hal : a.length ≤ l.length
        · have hz := hide (fun s (h : s ∈ a) => (by have := F.out s h; omega : s.size ≤ 1073741824))
          have hz' := hide (fun s (h : s ∈ l) => (by have := F'.out s h; omega : s.size ≤ 1073741824))
          have hz2 := hide (fun s (h : s ∈ p) => (by have := F2.out s h; omega : s.size ≤ 1073741824))
          have htl : (l.take a.length).length = a.length := by rw [List.length_take]; omega
          have Htl := hide htl; clear htl
          have r1 := hide (fun (W : World) (g : Below w.heap.size w W) => root_of a.length A c a _ W rfl rfl (he.next g) hc (by omega) hz.out (keepS hS g))
          have r2 := hide (fun (W : World) (g : Below w.heap.size w W) => root_of l.length A' c' l _ W rfl rfl (he.next g) hc' (by omega) hz'.out (keepS hS' g))
          have hex := hide (fun (R : Bool) (W : World) (g : Below w.heap.size w W) (hR : extB (Dg.root a) a.length (Dg.root l) l.length p = R) => extends_of (Dg.root a) a.length (Dg.root l) l.length A2 c2 p.length p R hR W (he.next g) rfl (by omega) hz2.out (by rw [root_size]; decide) (by rw [root_size]; decide) (keepS hS2 g))
          have s1 := slice_to A' l.length c' a.length (by omega)
          have hsame := hide (fun (R : Bool) (W : World) (g : Below w.heap.size w W) (hR : Dg.same a (l.take a.length) = R) => same_of A A' c c' a (l.take a.length) a.length a.length rfl Htl.out R hR W (by omega) (by omega) (keepS hS g) ((keepS hS' g).take _))
          have hlk := hide (fun (W : World) (g : Below w.heap.size w W) => Link_of A' c' l.length l a.length a.length rfl _ rfl W rfl (he.next g) hc' (by omega) hz'.out (keepS hS' g) hal)
          have t1 := hide (fun (W : World) (g : Below w.heap.size w W) => made_of rfl g (texts_any a.length A c a W rfl hc (by omega) (fun s h => by have := F.out s h; omega) (keepS hS g)))
          have t2 := hide (fun (W : World) (g : Below w.heap.size w W) => made_of rfl g (texts_any l.length A' c' l W rfl hc' (by omega) (fun s h => by have := F'.out s h; omega) (keepS hS' g)))
          have t3 := hide (fun (W : World) (g : Below w.heap.size w W) => made_of rfl g (texts_any a.length A' c' (l.take a.length) W Htl.out (by omega) (by omega) (fun s h => by have := F'.out s (List.mem_of_mem_take h); omega) ((keepS hS' g).take _)))
          have t4 := hide (fun (W : World) (g : Below w.heap.size w W) (h0 : a.length ≠ 0) (hE : extB (Dg.root a) a.length (Dg.root l) l.length p = true) => rlt_any l.length a.length true A2 c2 p.length (Dg.root a) p W rfl (extB_parts hE h0).1.symm (by omega) hal (by omega) hc2 (by rw [root_size]; decide) (fun s h => by have := F2.out s h; omega) (keepS hS2 g))
          have hsh := hide (fun (h0 : a.length ≠ 0) (hE : extB (Dg.root a) a.length (Dg.root l) l.length p = true) (hne : a ≠ l.take a.length) => (Dg.continues a l p (by omega) hal (fun s h => Dg.leZ (by have := F.out s h; omega)) (fun s h => Dg.leZ (by have := F'.out s h; omega)) (fun s h => Dg.leZ (by have := F2.out s h; omega)) (extB_parts hE h0).2.1 (extB_parts hE h0).2.2.1).resolve_left hne)
          have hlen := hide (fun (h0 : a.length ≠ 0) (hE : extB (Dg.root a) a.length (Dg.root l) l.length p = true) => (show (linkL l a.length).length = p.length by rw [linkL_pos _ _ h0, Dg.link_len l.length l a.length true rfl (by omega) hal, (extB_parts hE h0).1]))
          have hz0 := hide (fun (h0 : a.length = 0) => (show a = l.take a.length by rw [h0, List.take_zero]; exact List.length_eq_zero_iff.1 h0))
          have m1 := texts_len a.length a rfl
          have m2 := texts_len l.length l rfl
          have m3 := texts_len a.length (l.take a.length) Htl.out
          have m4 := hide (fun (h0 : a.length ≠ 0) => lt_len_le l.length a.length true (Dg.root a) p.reverse (by omega) hal)
          have hmm := hide (mem_app (mem_app (mem_app (texts_mem a.length a rfl F.out) (texts_mem l.length l rfl F'.out)) (texts_mem a.length (l.take a.length) Htl.out (fun s h => F'.out s (List.mem_of_mem_take h)))) (lt_size (Dg.way l.length a.length) true (Dg.root a) p.reverse (by rw [root_size]; decide) (fun s h => by have := F2.out s (List.mem_reverse.1 h); omega)))
          change Hid (∀ s ∈ ((Dg.texts a ++ Dg.texts l) ++ Dg.texts (l.take a.length)) ++ Dg.linkTexts l.length a.length true (Dg.root a) p.reverse, s.size ≤ 4194304) at hmm
          cases hE : extB (Dg.root a) a.length (Dg.root l) l.length p with
          | false =>
            have HE := hide hE; clear hE
            clear t1 t2 t3 t4 hsh hlen hz0 m1 m2 m3 m4 hmm hlk hsame
            generalize Dg.root a = R1 at *
            generalize Dg.root l = R2 at *
            generalize a.length = la at *
            generalize l.length = ll at *
            go_wp2_with fail
            refine (r1.out _ hb).mono ?_
            rintro e w4 ⟨rfl, hb2⟩
            replace hb := bnext hb hb2; clear hb2
            go_wp2_with fail
            refine (r2.out _ hb).mono ?_
            rintro e w5 ⟨rfl, hb2⟩
            replace hb := bnext hb hb2; clear hb2
            go_wp2_with fail
            refine (hex.out false _ hb HE.out).mono ?_
            rintro e w6 ⟨rfl, hb2⟩
            replace hb := bnext hb hb2; clear hb2
            go_wp2
            go_ret
            exact ⟨rfl, hb⟩
          | true =>
            have HE := hide hE; clear hE
            cases hsm : Dg.same a (l.take a.length) with
            | true =>
              have HSM := hide hsm; clear hsm
              clear t1 t2 t3 t4 hsh hlen hz0 m1 m2 m3 m4 hmm hlk
              generalize Dg.root a = R1 at *
              generalize Dg.root l = R2 at *
              generalize a.length = la at *
              generalize l.length = ll at *
              go_wp2_with fail
              refine (r1.out _ hb).mono ?_
              rintro e w4 ⟨rfl, hb2⟩
              replace hb := bnext hb hb2; clear hb2
              go_wp2_with fail
              refine (r2.out _ hb).mono ?_
              rintro e w5 ⟨rfl, hb2⟩
              replace hb := bnext hb hb2; clear hb2
              go_wp2_with fail
              refine (hex.out true _ hb HE.out).mono ?_
              rintro e w6 ⟨rfl, hb2⟩
              replace hb := bnext hb hb2; clear hb2
              go_wp2_with fail
              refine (hsame.out true _ hb HSM.out).mono ?_
              rintro e w7 ⟨rfl, hb2⟩
              replace hb := bnext hb hb2; clear hb2
              go_wp2
              go_ret
              exact ⟨rfl, hb⟩
            | false =>
              have hne : a ≠ l.take a.length := fun h => by rw [(Dg.same_iff _ _).2 h] at hsm; exact Bool.noConfusion hsm
              have h0 : a.length ≠ 0 := fun h => hne (hz0.out h)
              have HSM := hide hsm; clear hsm
              have T4 := hide (fun (W : World) (g : Below w.heap.size w W) => t4.out W g h0 HE.out)
              have hshown := hide (hsh.out h0 HE.out hne)
              have hpe := hide (hlen.out h0 HE.out)
              have m4' := m4.out h0
              clear hne hz0 hsh hlen t4 m4
              have x0 : ((a.length : Int) == 0) = false := ieq_f (by omega)
              generalize Dg.linkTexts l.length a.length true (Dg.root a) p.reverse = TT4 at *
              generalize Dg.texts a = TT1 at *
              generalize Dg.texts l = TT2 at *
              generalize Dg.texts (l.take a.length) = TT3 at *
              generalize linkL l a.length = q at *
              generalize Dg.root a = R1 at *
              generalize Dg.root l = R2 at *
              generalize a.length = la at *
              generalize l.length = ll at *
              go_wp2_with fail
              refine (r1.out _ hb).mono ?_
              rintro e w4 ⟨rfl, hb2⟩
              replace hb := bnext hb hb2; clear hb2
              go_wp2_with fail
              refine (r2.out _ hb).mono ?_
              rintro e w5 ⟨rfl, hb2⟩
              replace hb := bnext hb hb2; clear hb2
              go_wp2_with fail
              refine (hex.out true _ hb HE.out).mono ?_
              rintro e w6 ⟨rfl, hb2⟩
              replace hb := bnext hb hb2; clear hb2
              go_wp2_with fail
              refine (hsame.out false _ hb HSM.out).mono ?_
              rintro e w7 ⟨rfl, hb2⟩
              replace hb := bnext hb hb2; clear hb2
              go_wp2_with fail
              refine (hlk.out _ hb).mono ?_
              rintro e w8 ⟨A1, c1, n1, rfl, hn1, hc1, hSq, hb2⟩
              replace hb := bnext hb hb2; clear hb2
              obtain rfl : n1 = p.length := hn1.symm.trans hpe.out
              clear hn1 hSq
              have zz : ((p.length : Int) != (p.length : Int)) = false := ine_f rfl
              go_upto_region 9 with (fail)
              go_cut [10] (fun v wx => ∃ g cap, v = .slice (some ⟨g, 0, none⟩) (TT1.length + TT2.length + TT3.length) cap ∧ OwnS wx w.heap.size (.slice (some ⟨g, 0, none⟩) (TT1.length + TT2.length + TT3.length) cap) ((TT1 ++ TT2) ++ TT3) ∧ Below w.heap.size w wx)
              case first =>
                have hgd : Below w.heap.size w w8.drew := hb.drew
                clear r1 r2 hex hsame hlk T4 x0 zz
                go_region_held3 (fun W => Below w.heap.size w W) (first | assumption)
                  (first
                    | (go_at_call 29; (with_reducible refine (t1.out _ (by assumption)).mono ?_); rintro e wP ⟨⟨ga, ca, rfl, hO1, ba, bA⟩, hbP⟩; have hgP := bnext (by assumption) hbP)
                    | (go_at_call 29; (with_reducible refine (t2.out _ (by assumption)).mono ?_); rintro e wQ ⟨⟨gb, cb, rfl, hO2, bb, bB⟩, hbQ⟩; have hgQ := bnext (by assumption) hbQ)
                    | (go_at_call 29; (with_reducible refine (t3.out _ (by assumption)).mono ?_); rintro e wR ⟨⟨gc, cc, rfl, hO3, bc, bC⟩, hbR⟩; have hgR := bnext (by assumption) hbR)
                    | (refine step_ld rfl (.tmp 75) (.tmp 77) rfl w.heap.size _ _ TT1 TT2 rfl (hO1.below hbQ) gb cb rfl hO2 (by omega) (by omega) hgQ.size ?_; intro g3 c3 wF hF hbF hgr _; have hgF := hgQ.trans hbF)
                    | (refine step_ld rfl (.tmp 75) (.tmp 77) rfl w.heap.size _ _ TT1 TT2 rfl ((hO1.below hbQ).below hbR) gb cb rfl (hO2.below hbR) (by omega) (by omega) hgR.size ?_; intro g3 c3 wF hF hbF hgr _; have hgF := hgR.trans hbF)
                    | (refine step_ld rfl (.tmp 78) (.tmp 83) rfl w.heap.size _ _ (TT1 ++ TT2) TT3 rfl (hF.below hbR) gc cc rfl hO3 (by omega) (by rw [List.length_append]; omega) hgR.size ?_; intro g4 c4 wG hG hbG _ _; have hgG := hgR.trans hbG)
                    | (refine step_ld rfl (.tmp 78) (.tmp 83) rfl w.heap.size _ _ (TT1 ++ TT2) TT3 rfl hF gc cc rfl (hO3.grown hgr (by have := hbQ.size; omega)) (by omega) (by rw [List.length_append]; omega) hgF.size ?_; intro g4 c4 wG hG hbG _ _; have hgG := hgF.trans hbG))
                all_goals go_wp2
                all_goals go_meet
                all_goals first | exact ⟨_, _, rfl, hG, hgG⟩ | (rw [List.length_append] at hG; exact ⟨_, _, rfl, hG, hgG⟩)
              case rest =>
                obtain ⟨g5, c5, rfl, hO5, hgc⟩ := hcut
                clear t1 t2 t3 hex hsame hlk r2 hb
                go_wp2_with fail
                refine (r1.out _ hgc).mono ?_
                rintro e w10 ⟨rfl, hb2⟩
                have hO6 := hO5.below hb2
                replace hgc := bnext hgc hb2; clear hb2
                go_wp2_with fail
                refine (T4.out _ hgc).mono ?_
                rintro e w11 ⟨⟨v4, rfl, hO4⟩, hb2⟩
                have hO7 := hO6.below hb2
                replace hgc := bnext hgc hb2; clear hb2
                obtain ⟨Ab, cb, rfl, _, hSb⟩ := hO4.strs
                have hlt : (TT1 ++ TT2 ++ TT3).length = TT1.length + TT2.length + TT3.length := by rw [List.length_append, List.length_append]
                have Hlt := hide hlt; clear hlt
                go_wp2_with (first | (at_builtin; refine step_aw (by rfl) (.tmp 87) (.tmp 95) rfl w.heap.size _ _ (TT1 ++ TT2 ++ TT3) TT4 rfl hO7 Ab TT4.length cb rfl rfl hSb (by rw [Hlt.out]; omega) (by rw [Hlt.out]; omega) hgc.size (TT1.length + TT2.length + TT3.length + TT4.length) (by rw [Hlt.out]) ?_; intro g6 c6 w12 hO8 hb4) | fail)
                refine (shown_any _ c6 _ (TT1 ++ TT2 ++ TT3 ++ TT4) _ (by rw [List.length_append, Hlt.out]) (by omega) (fun s h => by have := hmm.out s h; omega) hO8.strs' hshown.out).mono ?_
                rintro e w13 ⟨rfl, hb5⟩
                have hb9 := bnext (hgc.trans hb4) hb5
                go_wp2
                go_ret
                exact ⟨rfl, hb9⟩
        · have x1 : decide ((l.length : Int) < (a.length : Int)) = true := decide_eq_true (by omega)
          go_wp2
          go_ret
          exact ⟨rfl, hb⟩
end Go.Proofs.YtmmpndijfbbnnaaDoor
