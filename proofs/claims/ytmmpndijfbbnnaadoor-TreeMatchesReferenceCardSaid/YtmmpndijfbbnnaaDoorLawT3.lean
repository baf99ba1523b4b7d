/- The law TreeBinds. -/
import Derived.Test.YtmmpndijfbbnnaaDoorLawT2
namespace Go.Proofs.YtmmpndijfbbnnaaDoor
open Go Go.RowKit Go.Sort
theorem checkB_parts {root : ByteArray} {n i : Nat} {s : ByteArray} {p : List ByteArray} (h : checkB root n i s p = true) : p.length = Dg.length n i ∧ Dg.up n i (Dg.leafB s) p.reverse = root ∧ (∀ s ∈ p, s.size = 16) := by
  unfold checkB at h
  simp only [Bool.and_eq_true, decide_eq_true_eq, Int.toNat_natCast] at h
  exact ⟨h.2.2.1, h.2.2.2, allDig_16 h.2.1⟩
theorem binds_shown (l : List ByteArray) (i : Nat) (hi : i < l.length) (s : ByteArray) (p : List ByteArray) (hs : s.size ≤ 100) (hl : ∀ s ∈ l, s.size ≤ 100) (h : checkB (Dg.root l) l.length i s p = true) (hne : s ≠ l[i]) : Dg.Shown (Dg.texts l ++ Dg.pathTexts l.length i s p.reverse) := by
  obtain ⟨_, h2, h3⟩ := checkB_parts h
  exact (Dg.path_binds l.length l i s p.reverse hi rfl (Dg.leZ (by omega)) (fun s h => Dg.leZ (by have := hl s h; omega)) (fun s h => by rw [h3 s (List.mem_reverse.1 h)]; decide) h2).resolve_left hne
set_option maxRecDepth 100000 in
set_option maxHeartbeats 2000000 in
theorem law_binds (A : Option Addr) (c : Nat) (l : List ByteArray) (raw : Nat) (hraw : raw ≤ 255) (s : ByteArray) (A' : Option Addr) (c' : Nat) (p : List ByteArray) (w : World) (he : Env w) (hl : l.length ≤ 9223372036854775807) (hls : ∀ s ∈ l, s.size ≤ 9223372036854775807) (hS : Strs w w.heap.size A l) (hc : l.length ≤ c) (hs : s.size ≤ 9223372036854775807)
    (hl' : p.length ≤ 9223372036854775807) (hls' : ∀ s ∈ p, s.size ≤ 9223372036854775807) (hS' : Strs w w.heap.size A' p) (hc' : p.length ≤ c') :
    Calls Tryd.prog 5 #[.slice A l.length c, .int .u8 raw, .string s, .slice A' p.length c'] w fun e w' => e = .returned (.bool true) ∧ Below w.heap.size w w' := by
  have HS := hide hls; have HS' := hide hls'; clear hls hls'
  go_enter Tryd.func5, Tryd.ntmps5
  go_wp2_with fail
  refine (head_any w he).mono ?_
  rintro e w1 ⟨rfl, hb⟩
  replace hS := keepS hS hb
  replace hS' := keepS hS' hb
  replace he := he.next hb
  go_wp2_with fail
  cases hf : few20 l with
  | false =>
    refine (few2_of A c _ l false rfl hf _ hl HS.out hS).mono ?_
    rintro e w2 ⟨rfl, rfl⟩
    clear hf
    go_wp2
    go_ret
    exact ⟨rfl, hb⟩
  | true =>
    refine (few2_of A c _ l true rfl hf _ hl HS.out hS).mono ?_
    rintro e w2 ⟨rfl, rfl⟩
    obtain ⟨f1, f2⟩ := few20_bounds hf
    have F2 := hide f2; clear hf f2
    go_wp2_with fail
    cases hf : few20 p with
    | false =>
      refine (few2_of A' c' _ p false rfl hf _ hl' HS'.out hS').mono ?_
      rintro e w2 ⟨rfl, rfl⟩
      clear hf
      go_wp2
      go_ret
      exact ⟨rfl, hb⟩
    | true =>
      refine (few2_of A' c' _ p true rfl hf _ hl' HS'.out hS').mono ?_
      rintro e w2 ⟨rfl, rfl⟩
      obtain ⟨f1', f2'⟩ := few20_bounds hf
      have F2' := hide f2'; clear hf f2'
      by_cases hs1 : s.size ≤ 100
      · by_cases hl0 : l.length = 0
        · have x1 : ((l.length : Int) == 0) = true := ieq_t (by omega)
          clear hl0
          go_wp2
          go_ret
          exact ⟨rfl, hb⟩
        · have x1 : ((l.length : Int) == 0) = false := ieq_f (by omega)
          obtain ⟨i, hi, hil⟩ := mod_of raw l.length (by omega)
          have hz := hide (fun s (h : s ∈ l) => (by have := F2.out s h; omega : s.size ≤ 1073741824))
          have hz' := hide (fun s (h : s ∈ p) => (by have := F2'.out s h; omega : s.size ≤ 1073741824))
          have hsh := hide (fun h1 h2 => binds_shown l i hil s p hs1 F2.out h1 h2)
          have hpl := hide (fun (h : checkB (Dg.root l) l.length i s p = true) => (checkB_parts h).1)
          have hpo := hide (Dg.path_len l.length l i rfl hil)
          have r1 := hide (fun (W : World) (e : Env W) (s : Strs W W.heap.size A l) => root_of l.length A c l _ W rfl rfl e hc (by omega) hz.out s)
          have hpa := hide (fun (W : World) (e : Env W) (s : Strs W W.heap.size A l) => path_of A c l.length l i i rfl _ rfl W rfl e hc (by omega) hz.out s hil)
          have t1 := hide (fun (W : World) (s : Strs W W.heap.size A l) => texts_any l.length A c l W rfl hc (by omega) (fun s h => by have := F2.out s h; omega) s)
          have t2 := hide (fun (W : World) (h : checkB (Dg.root l) l.length i s p = true) (hS : Strs W W.heap.size A' p) => rpt_any l.length i A' c' p.length s p W rfl (checkB_parts h).1.symm (by omega) hil (by omega) hc' (by omega) (fun s h => by have := F2'.out s h; omega) hS)
          have m1 := texts_len l.length l rfl
          have m3 := length_le l.length i
          have m2 : 1 ≤ (Dg.pathTexts l.length i s p.reverse).length ∧ (Dg.pathTexts l.length i s p.reverse).length ≤ 21 := by rw [pt_len l.length i s p.reverse (by omega) hil]; omega
          have hmm := hide (mem_app (texts_mem l.length l rfl F2.out) (pt_size l.length i s p.reverse (by omega) (fun s h => by have := F2'.out s (List.mem_reverse.1 h); omega)))
          have zr := root_size l
          have zli := F2.out l[i] (List.getElem_mem hil)
          obtain ⟨b, off, rfl, hbl, hcell⟩ := hS.get hil
          have hck := hide (fun (R : Bool) (W : World) (hR : checkB (Dg.root l) l.length i s p = R) (e : Env W) (hS : Strs W W.heap.size A' p) => check_of (Dg.root l) l.length i s A' c' p.length p R hR W e rfl (by omega) hz'.out (by omega) hS)
          generalize hX : l[i] = x at *
          clear hX
          by_cases hsx : s = x
          · have y1 := tl_true hsx
            subst hsx
            clear hsh hpl hpo
            generalize l.length = la at *
            go_wp2
            go_ret
            exact ⟨rfl, hb⟩
          · have y1 := tl_false hsx
            have HSX := hide hsx; clear hsx
            cases hC : checkB (Dg.root l) l.length i s p with
            | false =>
              have HC := hide hC; clear hC
              clear hsh hpl hpo t1 t2 hmm hpa m1 m2 m3
              generalize Dg.root l = R at *
              generalize l.length = la at *
              go_wp2_with fail
              refine (r1.out _ he hS).mono ?_
              rintro e w4 ⟨rfl, hb2⟩
              replace hS' := keepS hS' hb2
              replace he := he.next hb2
              replace hb := bnext hb hb2; clear hb2
              go_wp2_with fail
              refine (hck.out false _ HC.out he hS').mono ?_
              rintro e w5 ⟨rfl, hb2⟩
              replace hb := bnext hb hb2; clear hb2
              go_wp2
              go_ret
              exact ⟨rfl, hb⟩
            | true =>
              have HC := hide hC
              have hpe := hide ((hpl.out hC).trans hpo.out.symm)
              have hshown := hide (hsh.out hC HSX.out)
              have t2' := hide (fun (W : World) (hS : Strs W W.heap.size A' p) => t2.out W hC hS)
              clear hC hsh hpl t2 HSX
              generalize Dg.root l = R at *
              generalize Dg.texts l = T1 at *
              generalize Dg.pathTexts l.length i s p.reverse = T2 at *
              generalize Dg.path l i = q at *
              generalize l.length = la at *
              go_wp2_with fail
              refine (r1.out _ he hS).mono ?_
              rintro e w4 ⟨rfl, hb2⟩
              replace hS := keepS hS hb2
              replace hS' := keepS hS' hb2
              replace he := he.next hb2
              replace hb := bnext hb hb2; clear hb2
              go_wp2_with fail
              refine (hck.out true _ HC.out he hS').mono ?_
              rintro e w5 ⟨rfl, hb2⟩
              replace hS := keepS hS hb2
              replace hS' := keepS hS' hb2
              replace he := he.next hb2
              replace hb := bnext hb hb2; clear hb2
              go_wp2_with fail
              refine (hpa.out _ he hS).mono ?_
              rintro e w6 ⟨A1, c1, n1, rfl, hn1, hc1, hSq, hb2⟩
              replace hS := keepS hS hb2
              replace hS' := keepS hS' hb2
              replace hb := bnext hb hb2; clear hb2
              obtain rfl : n1 = p.length := hn1.symm.trans hpe.out.symm
              clear hn1 hSq
              have zz : ((p.length : Int) != (p.length : Int)) = false := ine_f rfl
              go_wp2_with fail
              refine (t1.out _ hS).mono ?_
              rintro e w7 ⟨⟨ga, ca, rfl, hO1⟩, hb2⟩
              have hb6 := bnext hb hb2
              replace hS' := keepS hS' hb2
              go_wp2_with fail
              refine (t2'.out _ hS').mono ?_
              rintro e w8 ⟨⟨v2, rfl, hO2⟩, hb3⟩
              have hb7 := bnext hb6 hb3
              have hO1' := (hO1.base hb.size).below hb3
              obtain ⟨gb, cb, rfl, _, _⟩ := hO2.full (by omega)
              go_wp2_with (first | (at_builtin; refine step_lw (by rfl) (.tmp 74) (.tmp 80) rfl w.heap.size _ _ T1 T2 rfl hO1' gb cb rfl hO2 (by omega) (by omega) hb7.size _ rfl ?_; intro g3 c3 w9 hO3 hb4) | fail)
              refine (shown_any _ c3 _ (T1 ++ T2) _ (by rw [List.length_append]) (by omega) (fun s h => by have := hmm.out s h; omega) hO3.strs' hshown.out).mono ?_
              rintro e w10 ⟨rfl, hb5⟩
              have hb9 := bnext (hb7.trans hb4) hb5
              go_wp2
              go_ret
              exact ⟨rfl, hb9⟩
      · go_wp2
        go_ret
        exact ⟨rfl, hb⟩
end Go.Proofs.YtmmpndijfbbnnaaDoor
