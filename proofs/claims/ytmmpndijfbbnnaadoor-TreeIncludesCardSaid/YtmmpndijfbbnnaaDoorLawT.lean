/- What the laws on trees ask: few, lists appended to lists, the slice opened with its capacity. -/
import Derived.Test.YtmmpndijfbbnnaaDoorHead2
namespace Go.Proofs.YtmmpndijfbbnnaaDoor
open Go Go.RowKit Go.Sort
def few20 (l : List ByteArray) : Bool := decide (l.length ≤ 20) && Dg.few l 100
theorem few20_bounds {l : List ByteArray} (h : few20 l = true) : l.length ≤ 20 ∧ ∀ s ∈ l, s.size ≤ 100 := by
  unfold few20 at h
  rw [Bool.and_eq_true] at h
  have h1 := of_decide_eq_true h.1
  obtain ⟨_, h2⟩ := (Dg.few_iff l 100).1 h.2
  exact ⟨h1, fun s hs => by have := h2 s hs; omega⟩
theorem few2_of (A : Option Addr) (c k : Nat) (l : List ByteArray) (r : Bool) (hk : l.length = k) (hr : few20 l = r) (w : World) (hl : k ≤ 9223372036854775807) (hs : ∀ s ∈ l, s.size ≤ 9223372036854775807) (hS : Strs w w.heap.size A l) :
    Calls Tryd.prog 16 #[.slice A k c] w fun e w' => e = .returned (.bool r) ∧ w = w' := by
  subst hk
  have HR := hide hr; clear hr
  have HF := hide (few_of A c l.length l 100 _ rfl rfl w hl hs hS)
  clear hs
  go_enter Tryd.func16, Tryd.ntmps16
  by_cases h : l.length ≤ 20
  · go_wp2_with fail
    refine HF.out.mono ?_
    rintro e w1 ⟨rfl, rfl⟩
    go_wp2
    go_ret
    exact ⟨ret_bool (by rw [← HR.out, few20, decide_eq_true h, Bool.true_and]), rfl⟩
  · go_wp2
    go_ret
    exact ⟨ret_bool (by rw [← HR.out, few20, decide_eq_false h, Bool.false_and]), rfl⟩
theorem wpList_wanted {P : Program} {ops : Array Oper} {Q : Exit → Act → World → Prop} {a : Act} {w : World} {rest : List Oper} {o : Oper} (hw : Region.wanted o (yielded ops a.tmps) = true)
    (h : ∀ K : Act → World → Prop, (∀ a w, wpList P ops Q rest a w → K a w) → o.wp P a w K Q) : wpList P ops Q (o :: rest) a w :=
  wpList_step fun K hK => by rw [if_pos hw]; exact h K hK
/-- A list of strings onto strings of the call's own, where the operation is wanted. -/
theorem step_lw {w : World} {ops : Array Oper} {rest : List Oper} {o : Oper} {a : Act} {Q : Exit → Act → World → Prop} (hgd : Region.wanted o (yielded ops a.tmps) = true) (sl x : Operand)
    (ho : o.op = .call { callee := .builtin .append, args := #[sl, x], argTypes := #[22, 22] })
    (B B' : Nat) (v : Value) (l l' : List ByteArray) (hs : a.eval sl = v) (hown : OwnS w B v l) (g' cap' : Nat) (hx : a.eval x = .slice (some ⟨g', 0, none⟩) l'.length cap') (hown' : OwnS w B' (.slice (some ⟨g', 0, none⟩) l'.length cap') l')
    (h0 : 0 < l'.length) (hlen : l.length + l'.length < 1099511627776) (hB : B ≤ w.heap.size) (n : Nat) (hn : l.length + l'.length = n)
    (h : ∀ g cap w', OwnS w' B (.slice (some ⟨g, 0, none⟩) n cap) (l ++ l') → Below B w w' → wpList Tryd.prog ops Q rest (a.put o.dst (.slice (some ⟨g, 0, none⟩) n cap)) w') : wpList Tryd.prog ops Q (o :: rest) a w := by
  subst hn
  obtain ⟨i, h1, h2, h3, h4⟩ := info_parts strInfo
  unfold OwnS OwnV at hown
  rw [List.length_map] at hown
  have hat := hown'.getc
  refine wpList_wanted hgd fun K hK => wp_append_lies w sl x 22 ho B 9 i _ 1 16 Tryd.underlying22 h1 h2 h3 h4 rfl (by omega) v l.length _ hs hown ⟨g', 0, none⟩ l'.length cap' (l'.map .string) hx (by rw [List.length_map, Nat.mul_one]) ?_ ?_ h0 (by unfold maxLen; omega) (by omega) hB w.heap.size rfl fun g cap w' h5 h6 h7 _ => hK _ _ (h g cap w' ?_ (below_own hown h6 hB))
  · intro j u' hj
    rw [List.getElem?_map] at hj
    cases hq : l'[j]? with
    | none => rw [hq] at hj; cases hj
    | some s =>
      rw [hq] at hj
      obtain rfl : Value.string s = u' := by simpa using hj
      rw [add_off0]
      exact hat j s hq
  · intro u' hu'
    obtain ⟨s, _, rfl⟩ := List.mem_map.1 hu'
    rfl
  · unfold OwnS OwnV
    rw [List.length_map, List.length_append, List.map_append]
    exact h5
theorem OwnS.strs' {w : World} {B g n cap : Nat} {l : List ByteArray} (h : OwnS w B (.slice (some ⟨g, 0, none⟩) n cap) l) : Strs w w.heap.size (some ⟨g, 0, none⟩) l :=
  ⟨fun _ => ⟨g, 0, rfl, h.bounds.2, fun j s hj => by rw [Nat.zero_add]; exact h.getc j s hj⟩⟩
theorem texts_mem (n : Nat) (l : List ByteArray) (hl : l.length = n) (hs : ∀ s ∈ l, s.size ≤ 100) : ∀ t ∈ Dg.texts l, t.size ≤ 4194304 := texts_size n l hl fun s h => by have := hs s h; omega
theorem mem_app {a b : List ByteArray} {n : Nat} (ha : ∀ s ∈ a, s.size ≤ n) (hb : ∀ s ∈ b, s.size ≤ n) : ∀ s ∈ a ++ b, s.size ≤ n := fun s hs => by
  rcases List.mem_append.1 hs with h | h
  · exact ha s h
  · exact hb s h
set_option maxRecDepth 100000 in
set_option maxHeartbeats 1000000 in
theorem law_roots (A : Option Addr) (c : Nat) (a : List ByteArray) (A' : Option Addr) (c' : Nat) (b : List ByteArray) (w : World) (he : Env w) (hl : a.length ≤ 9223372036854775807) (hls : ∀ s ∈ a, s.size ≤ 9223372036854775807) (hS : Strs w w.heap.size A a) (hc : a.length ≤ c)
    (hl' : b.length ≤ 9223372036854775807) (hls' : ∀ s ∈ b, s.size ≤ 9223372036854775807) (hS' : Strs w w.heap.size A' b) (hc' : b.length ≤ c') :
    Calls Tryd.prog 6 #[.slice A a.length c, .slice A' b.length c'] w fun e w' => e = .returned (.bool true) ∧ Below w.heap.size w w' := by
  have HS := hide hls; have HS' := hide hls'; clear hls hls'
  go_enter Tryd.func6, Tryd.ntmps6
  go_wp2_with fail
  refine (head_any w he).mono ?_
  rintro e w1 ⟨rfl, hb⟩
  replace hS := keepS hS hb
  replace hS' := keepS hS' hb
  replace he := he.next hb
  go_wp2_with fail
  cases hf : few20 a with
  | false =>
    refine (few2_of A c _ a false rfl hf _ hl HS.out hS).mono ?_
    rintro e w2 ⟨rfl, rfl⟩
    clear hf
    go_wp2
    go_ret
    exact ⟨rfl, hb⟩
  | true =>
    refine (few2_of A c _ a true rfl hf _ hl HS.out hS).mono ?_
    rintro e w2 ⟨rfl, rfl⟩
    obtain ⟨f1, f2⟩ := few20_bounds hf
    have F2 := hide f2; clear hf f2
    go_wp2_with fail
    cases hf : few20 b with
    | false =>
      refine (few2_of A' c' _ b false rfl hf _ hl' HS'.out hS').mono ?_
      rintro e w2 ⟨rfl, rfl⟩
      clear hf
      go_wp2
      go_ret
      exact ⟨rfl, hb⟩
    | true =>
      refine (few2_of A' c' _ b true rfl hf _ hl' HS'.out hS').mono ?_
      rintro e w2 ⟨rfl, rfl⟩
      obtain ⟨f1', f2'⟩ := few20_bounds hf
      have F2' := hide f2'; clear hf f2'
      by_cases hab : a.length = b.length
      · generalize hla : a.length = la at *
        generalize hlb : b.length = lb at *
        obtain rfl : lb = la := hab.symm
        have Hla := hide hla; have Hlb := hide hlb; clear hla hlb hab
        generalize lb = la at *
        have r1 := hide (fun (W : World) (e : Env W) (s : Strs W W.heap.size A a) => root_of la A c a _ W Hla.out rfl e hc (by omega) (fun s h => by have := F2.out s h; omega) s)
        have r2 := hide (fun (W : World) (e : Env W) (s : Strs W W.heap.size A' b) => root_of la A' c' b _ W Hlb.out rfl e hc' (by omega) (fun s h => by have := F2'.out s h; omega) s)
        go_wp2_with fail
        cases hsm : Dg.same a b with
        | true =>
          refine (same_of A A' c c' a b la la Hla.out Hlb.out true hsm _ hl hl' hS hS').mono ?_
          rintro e w3 ⟨rfl, hb2⟩
          replace hS := keepS hS hb2
          replace hS' := keepS hS' hb2
          replace he := he.next hb2
          replace hb := bnext hb hb2; clear hb2
          have hr := (Dg.same_iff a b).1 hsm
          have t1 := tl_true (congrArg Dg.root hr)
          clear hsm hr
          generalize Dg.root a = X at *
          generalize Dg.root b = Y at *
          go_wp2_with fail
          refine (r1.out _ he hS).mono ?_
          rintro e w4 ⟨rfl, hb2⟩
          replace hS' := keepS hS' hb2
          replace he := he.next hb2
          replace hb := bnext hb hb2; clear hb2
          go_wp2_with fail
          refine (r2.out _ he hS').mono ?_
          rintro e w5 ⟨rfl, hb2⟩
          replace hb := bnext hb hb2; clear hb2
          go_wp2
          go_ret
          exact ⟨rfl, hb⟩
        | false =>
          refine (same_of A A' c c' a b la la Hla.out Hlb.out false hsm _ hl hl' hS hS').mono ?_
          rintro e w3 ⟨rfl, hb2⟩
          replace hS := keepS hS hb2
          replace hS' := keepS hS' hb2
          replace he := he.next hb2
          replace hb := bnext hb hb2; clear hb2
          have hne : Hid (a ≠ b) := fun h => by rw [(Dg.same_iff a b).2 h] at hsm; exact Bool.noConfusion hsm
          clear hsm
          have hsh := hide (fun (h : Dg.root a = Dg.root b) => (Dg.roots_same la a b Hla.out Hlb.out (fun s h => Dg.leZ (by have := F2.out s h; omega)) (fun s h => Dg.leZ (by have := F2'.out s h; omega)) h).resolve_left hne.out)
          have t1 := hide (fun (W : World) (s : Strs W W.heap.size A a) => texts_any la A c a W Hla.out hc (by omega) (fun s h => by have := F2.out s h; omega) s)
          have t2 := hide (fun (W : World) (s : Strs W W.heap.size A' b) => texts_any la A' c' b W Hlb.out hc' (by omega) (fun s h => by have := F2'.out s h; omega) s)
          have m1 := texts_len la a Hla.out
          have m2 := texts_len la b Hlb.out
          have hmm := hide (mem_app (texts_mem la a Hla.out F2.out) (texts_mem la b Hlb.out F2'.out))
          generalize Dg.root a = X at *
          generalize Dg.root b = Y at *
          generalize Dg.texts a = T1 at *
          generalize Dg.texts b = T2 at *
          go_wp2_with fail
          refine (r1.out _ he hS).mono ?_
          rintro e w4 ⟨rfl, hb2⟩
          replace hS := keepS hS hb2
          replace hS' := keepS hS' hb2
          replace he := he.next hb2
          replace hb := bnext hb hb2; clear hb2
          go_wp2_with fail
          refine (r2.out _ he hS').mono ?_
          rintro e w5 ⟨rfl, hb2⟩
          replace hS := keepS hS hb2
          replace hS' := keepS hS' hb2
          replace hb := bnext hb hb2; clear hb2
          by_cases hXY : X = Y
          · have hs := hide (hsh.out hXY)
            have t3 := tl_true hXY
            have t4 : (X.toList != Y.toList) = false := by rw [bne, t3]; rfl
            clear hXY
            go_wp2_with fail
            refine (t1.out _ hS).mono ?_
            rintro e w6 ⟨⟨ga, ca, rfl, hO1⟩, hb2⟩
            have hb6 := bnext hb hb2
            replace hS' := keepS hS' hb2
            go_wp2_with fail
            refine (t2.out _ hS').mono ?_
            rintro e w7 ⟨⟨gb, cb, rfl, hO2⟩, hb3⟩
            have hb7 := bnext hb6 hb3
            have hO1' := (hO1.base hb.size).below hb3
            go_wp2_with (first | (at_builtin; refine step_lw (by rfl) (.tmp 43) (.tmp 45) rfl w.heap.size _ _ T1 T2 rfl hO1' gb cb rfl hO2 (by omega) (by omega) hb7.size _ rfl ?_; intro g3 c3 w8 hO3 hb4) | fail)
            refine (shown_any _ c3 _ (T1 ++ T2) _ (by rw [List.length_append]) (by omega) (fun s h => by have := hmm.out s h; omega) hO3.strs' hs.out).mono ?_
            rintro e w9 ⟨rfl, hb5⟩
            have hb9 := bnext (hb7.trans hb4) hb5
            go_wp2
            go_ret
            exact ⟨rfl, hb9⟩
          · have t3 := tl_false hXY
            have t4 : (X.toList != Y.toList) = true := by rw [bne, t3]; rfl
            clear hXY
            go_wp2
            go_ret
            exact ⟨rfl, hb⟩
      · have x1 : ((a.length : Int) != (b.length : Int)) = true := ine_t (by omega)
        clear hab
        go_wp2
        go_ret
        exact ⟨rfl, hb⟩
end Go.Proofs.YtmmpndijfbbnnaaDoor
