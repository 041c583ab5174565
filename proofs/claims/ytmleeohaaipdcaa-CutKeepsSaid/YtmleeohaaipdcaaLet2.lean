/-
  Layer 10: letters: contracts: May of any kind, the reference's Same and Copy, slices.Clone of numbers, the copy of layer 21.
-/
import Derived.Test.YtmleeohaaipdcaaLet
import Derived.Test.YtmleeohaaipdcaaOkU
namespace Go.Proofs.Ytmleeohaaipdcaa
set_option linter.unusedSimpArgs false
set_option linter.unusedVariables false
set_option linter.unusedSectionVars false
open Go.RowKit

/-- a letter -/
structure Lc where
  k : Int
  p : Pr
  r : Int
  s : Pr
  n : Int
  b : List Int
  cid : Int
  c : List Int
  w : Bool
  deriving Inhabited, DecidableEq
abbrev Lc.v (x : Lc) (BA : Option Addr) (bc : Nat) (CA : Option Addr) (cc : Nat) : Value := LtV x.k x.p.1 x.p.2 x.r x.s.1 x.s.2 x.n BA x.b.length bc x.cid CA x.c.length cc x.w
/-- what it is made of can be read, and may stand in bytes -/
structure Lc.Ok (W : World) (x : Lc) (BA CA : Option Addr) : Prop where
  b : Reads W W.heap.size 1 BA x.b.length (bcs x.b)
  c : Ul W CA x.c
  bl : x.b.length ≤ 100000
  cl : x.c.length ≤ 100000
  ok : bOK x.b
  pi : 0 ≤ x.p.2
  si : 0 ≤ x.s.2
theorem Lc.Ok.step {a W : World} {x : Lc} {BA CA : Option Addr} (h : x.Ok a BA CA) (hb : Below a.heap.size a W) : x.Ok W BA CA := ⟨(h.b.below hb).more hb.size, h.c.step hb, h.bl, h.cl, h.ok, h.pi, h.si⟩
theorem Lc.Ok.tc {a W : World} {x : Lc} {BA CA : Option Addr} (h : x.Ok a BA CA) [b : Blw a W] : x.Ok W BA CA := h.step b.h
/-- may it be? -/
def Lc.mayB (x : Lc) : Bool := Go.Proofs.Ytmleeohaaipdcaa.mayB x.p.1 x.p.2 && (mayIdB x.r x.s.1 x.s.2 && (if x.k = 7 then lprog7 x.n x.b x.cid x.c x.w else if x.k = 8 then lprog8 x.n x.b x.cid x.c x.w else if x.k = 9 then lprog9 x.n x.b x.cid x.c x.w else false))
theorem lref7_eq (n : Int) (b : List Int) (cid : Int) (c : List Int) (w : Bool) : lref7 n b cid c w = lprog7 n b cid c w := by
  unfold lref7 lprog7
  rw [Bool.eq_iff_iff]; simp; constructor
  · rintro ⟨h1, h2, h3, h4, h5, h6⟩; exact ⟨h4, h6, h1, h2, h3, h5⟩
  · rintro ⟨h4, h6, h1, h2, h3, h5⟩; exact ⟨h1, h2, h3, h4, h5, h6⟩
theorem lref8_eq (n : Int) (b : List Int) (cid : Int) (c : List Int) (w : Bool) : lref8 n b cid c w = lprog8 n b cid c w := by
  unfold lref8 lprog8
  rw [Bool.eq_iff_iff]; simp; intro _ _; constructor
  · rintro ⟨h3, h4, h5⟩; exact ⟨h5, h3, h4⟩
  · rintro ⟨h5, h3, h4⟩; exact ⟨h3, h4, h5⟩
theorem lref9_eq (n : Int) (b : List Int) (cid : Int) (c : List Int) (w : Bool) : lref9 n b cid c w = lprog9 n b cid c w := by
  unfold lref9 lprog9
  rw [Bool.eq_iff_iff]; simp
theorem letMay_s (x : Lc) (BA : Option Addr) (bc : Nat) (CA : Option Addr) (cc : Nat) (w : World) (h : x.Ok w BA CA) : Calls Try.prog 41 #[x.v BA bc CA cc] w (RetB w x.mayB) := by
  obtain ⟨k, ⟨fn, fi⟩, r, ⟨sn, si⟩, n, b, cid, c, wt⟩ := x
  have h2 := h.cl
  unfold Lc.mayB
  by_cases h7 : k = 7
  · have := lprog7_s k fn fi r sn si n BA b bc cid CA c cc wt w h.c (by simp at h2; omega) h7
    rw [if_pos h7]; exact this
  · rw [if_neg h7]
    by_cases h8 : k = 8
    · have := lprog8_s k fn fi r sn si n BA b bc cid CA c cc wt w h.c (by simp at h2; omega) h8
      rw [if_pos h8]; exact this
    · rw [if_neg h8]
      by_cases h9 : k = 9
      · have := lprog9_s k fn fi r sn si n BA b bc cid CA c cc wt w h.c (by simp at h2; omega) h9
        rw [if_pos h9]; exact this
      · rw [if_neg h9]
        exact lprog0_s k fn fi r sn si n BA b bc cid CA c cc wt w h.c (by simp at h2; omega) h7 h8 h9
theorem refLetMay_s (x : Lc) (BA : Option Addr) (bc : Nat) (CA : Option Addr) (cc : Nat) (w : World) (h : x.Ok w BA CA) : Calls Try.prog 88 #[x.v BA bc CA cc] w (RetB w x.mayB) := by
  obtain ⟨k, ⟨fn, fi⟩, r, ⟨sn, si⟩, n, b, cid, c, wt⟩ := x
  have h2 := h.cl
  unfold Lc.mayB
  by_cases h7 : k = 7
  · have := lref7_s k fn fi r sn si n BA b bc cid CA c cc wt w h.c (by simp at h2; omega) h.pi h.si h7
    rw [lref7_eq] at this
    rw [if_pos h7]; exact this
  · rw [if_neg h7]
    by_cases h8 : k = 8
    · have := lref8_s k fn fi r sn si n BA b bc cid CA c cc wt w h.c (by simp at h2; omega) h.pi h.si h8
      rw [lref8_eq] at this
      rw [if_pos h8]; exact this
    · rw [if_neg h8]
      by_cases h9 : k = 9
      · have := lref9_s k fn fi r sn si n BA b bc cid CA c cc wt w h.c (by simp at h2; omega) h.pi h.si h9
        rw [lref9_eq] at this
        rw [if_pos h9]; exact this
      · rw [if_neg h9]
        exact lref0_s k fn fi r sn si n BA b bc cid CA c cc wt w h.c (by simp at h2; omega) h.pi h.si h7 h8 h9
def eqLB (k fn fi r sn si n : Int) (bs : List Int) (cid : Int) (cs : List Int) (wt : Bool) (k' fn' fi' r' sn' si' n' : Int) (bs' : List Int) (cid' : Int) (cs' : List Int) (wt' : Bool) : Bool := ((k == k') && (eqP fn fi fn' fi' && (eqI r sn si r' sn' si' && ((n == n') && (decide (bs = bs') && ((cid == cid') && (decide (cs = cs') && (wt == wt'))))))))
set_option maxRecDepth 100000 in
set_option maxHeartbeats 4000000 in
theorem same10_t (k fn fi r sn si n : Int) (BA : Option Addr) (bs : List Int) (bc : Nat) (cid : Int) (CA : Option Addr) (cs : List Int) (cc : Nat) (wt : Bool) (k' fn' fi' r' sn' si' n' : Int) (BA' : Option Addr) (bs' : List Int) (bc' : Nat) (cid' : Int) (CA' : Option Addr) (cs' : List Int) (cc' : Nat) (wt' : Bool) (w : World) (hb : Reads w w.heap.size 1 BA bs.length (bcs bs)) (hc : Ul w CA cs) (hb' : Reads w w.heap.size 1 BA' bs'.length (bcs bs')) (hc' : Ul w CA' cs') (ok : bOK bs) (ok' : bOK bs') (hl : cs.length ≤ 1000000) (hl' : cs'.length ≤ 1000000) :
    Calls Try.prog 17 #[LtV k fn fi r sn si n BA bs.length bc cid CA cs.length cc wt, LtV k' fn' fi' r' sn' si' n' BA' bs'.length bc' cid' CA' cs'.length cc' wt'] w (RetB w (eqLB k fn fi r sn si n bs cid cs wt k' fn' fi' r' sn' si' n' bs' cid' cs' wt')) := by
  have T1 := hide (fun W (h : Ul W CA cs) (h' : Ul W CA' cs') => numbers10_s CA CA' cc cc' cs cs' W h h' hl hl')
  have HC := hide hc
  have HC' := hide hc'
  have hst := str_eq ok ok'
  haveI : RdY w BA bs.length bs := ⟨hb⟩
  haveI : RdY w BA' bs'.length bs' := ⟨hb'⟩
  unfold eqLB
  clear hb hc hb' hc' ok ok' hl hl'
  cases f1 : (k == k')
  · go_enter Try.func17, Try.ntmps17
    go_wp2_with (go_at_call 54; (with_reducible refine (T1.out _ HC.out.tc HC'.out.tc).mono ?_); rintro e w1 ⟨rfl, hb⟩; haveI : Stp _ w1 := ⟨hb⟩; clear hb)
    go_ret
    exact ⟨ret_b (by simp), blw⟩
  · cases f2 : eqP fn fi fn' fi'
    · go_enter Try.func17, Try.ntmps17
      go_wp2_with (go_at_call 54; (with_reducible refine (T1.out _ HC.out.tc HC'.out.tc).mono ?_); rintro e w1 ⟨rfl, hb⟩; haveI : Stp _ w1 := ⟨hb⟩; clear hb)
      go_ret
      exact ⟨ret_b (by simp), blw⟩
    · cases f3 : eqI r sn si r' sn' si'
      · go_enter Try.func17, Try.ntmps17
        go_wp2_with (go_at_call 54; (with_reducible refine (T1.out _ HC.out.tc HC'.out.tc).mono ?_); rintro e w1 ⟨rfl, hb⟩; haveI : Stp _ w1 := ⟨hb⟩; clear hb)
        go_ret
        exact ⟨ret_b (by simp), blw⟩
      · cases f4 : (n == n')
        · go_enter Try.func17, Try.ntmps17
          go_wp2_with (go_at_call 54; (with_reducible refine (T1.out _ HC.out.tc HC'.out.tc).mono ?_); rintro e w1 ⟨rfl, hb⟩; haveI : Stp _ w1 := ⟨hb⟩; clear hb)
          go_ret
          exact ⟨ret_b (by simp), blw⟩
        · cases f5 : decide (bs = bs')
          · rw [f5] at hst
            go_enter Try.func17, Try.ntmps17
            go_wp2_with (go_at_call 54; (with_reducible refine (T1.out _ HC.out.tc HC'.out.tc).mono ?_); rintro e w1 ⟨rfl, hb⟩; haveI : Stp _ w1 := ⟨hb⟩; clear hb)
            go_ret
            exact ⟨ret_b (by simp), blw⟩
          · rw [f5] at hst
            cases f6 : (cid == cid')
            · go_enter Try.func17, Try.ntmps17
              go_wp2_with (go_at_call 54; (with_reducible refine (T1.out _ HC.out.tc HC'.out.tc).mono ?_); rintro e w1 ⟨rfl, hb⟩; haveI : Stp _ w1 := ⟨hb⟩; clear hb)
              go_ret
              exact ⟨ret_b (by simp), blw⟩
            · cases f7 : decide (cs = cs')
              · rw [f7] at T1
                go_enter Try.func17, Try.ntmps17
                go_wp2_with (go_at_call 54; (with_reducible refine (T1.out _ HC.out.tc HC'.out.tc).mono ?_); rintro e w1 ⟨rfl, hb⟩; haveI : Stp _ w1 := ⟨hb⟩; clear hb)
                go_ret
                exact ⟨ret_b (by simp), blw⟩
              · rw [f7] at T1
                go_enter Try.func17, Try.ntmps17
                go_wp2_with (go_at_call 54; (with_reducible refine (T1.out _ HC.out.tc HC'.out.tc).mono ?_); rintro e w1 ⟨rfl, hb⟩; haveI : Stp _ w1 := ⟨hb⟩; clear hb)
                go_ret
                exact ⟨ret_b (by simp), blw⟩
theorem eqLB_iff (x y : Lc) : eqLB x.k x.p.1 x.p.2 x.r x.s.1 x.s.2 x.n x.b x.cid x.c x.w y.k y.p.1 y.p.2 y.r y.s.1 y.s.2 y.n y.b y.cid y.c y.w = decide (x = y) := by
  obtain ⟨k, ⟨fn, fi⟩, r, ⟨sn, si⟩, n, b, cid, c, wt⟩ := x
  obtain ⟨k', ⟨fn', fi'⟩, r', ⟨sn', si'⟩, n', b', cid', c', wt'⟩ := y
  rw [Bool.eq_iff_iff]
  simp only [eqLB, eqP, eqI, Bool.and_eq_true, decide_eq_true_eq, beq_iff_eq, Lc.mk.injEq, Prod.mk.injEq]
  constructor
  · rintro ⟨h1, ⟨h2, h3⟩, ⟨h4, h5, h6⟩, h7, h8, h9, h10, h11⟩
    exact ⟨h1, ⟨h2, h3⟩, h4, ⟨h5, h6⟩, h7, h8, h9, h10, h11⟩
  · rintro ⟨h1, ⟨h2, h3⟩, h4, ⟨h5, h6⟩, h7, h8, h9, h10, h11⟩
    exact ⟨h1, ⟨h2, h3⟩, ⟨h4, h5, h6⟩, h7, h8, h9, h10, h11⟩
theorem same10_s (x y : Lc) (BA : Option Addr) (bc : Nat) (CA : Option Addr) (cc : Nat) (BA' : Option Addr) (bc' : Nat) (CA' : Option Addr) (cc' : Nat) (w : World) (h : x.Ok w BA CA) (h' : y.Ok w BA' CA') :
    Calls Try.prog 17 #[x.v BA bc CA cc, y.v BA' bc' CA' cc'] w (RetB w (decide (x = y))) := by
  have h2 := h.cl
  have h3 := h'.cl
  have := same10_t x.k x.p.1 x.p.2 x.r x.s.1 x.s.2 x.n BA x.b bc x.cid CA x.c cc x.w y.k y.p.1 y.p.2 y.r y.s.1 y.s.2 y.n BA' y.b bc' y.cid CA' y.c cc' y.w w h.b h.c h'.b h'.c h.ok h'.ok (by omega) (by omega)
  rw [eqLB_iff] at this
  exact this
/-! ### copies -/
abbrev OwnU (w : World) (base : Nat) (v : Value) (l : List Int) : Prop := w.ownsRow base 23 1 v l.length (ucs l)
set_option maxHeartbeats 400000 in
theorem cloneU_s (A : Option Addr) (c : Nat) (l : List Int) (w : World) (h : Ul w A l) (hn : l.length ≤ 1000000) :
    Calls Try.prog 85 #[.slice A l.length c] w fun e w' => ∃ v, e = .returned v ∧ OwnU w' w.heap.size v l ∧ Below w.heap.size w w' := by
  cases A with
  | none =>
    have h0 : l.length = 0 := by
      rcases Nat.eq_zero_or_pos l.length with h' | h'
      · exact h'
      · obtain ⟨_, _, h'', _⟩ := h.2 h'; cases h''
    have hl : l = [] := List.eq_nil_of_length_eq_zero h0
    subst hl
    clear h h0
    have hnil : ∀ W c, (binOp .eql 29 (.slice none 0 c) (.slice none 0 0)).run Try.prog W = .ok (.bool true) W := fun W c => Lib.run_eql_slice_nil W 29 23 none 0 c 0 0 Try.underlying29
    rw [show ([] : List Int).length = 0 from rfl]
    go_enter Try.func85, Try.ntmps85
    go_wp2
    go_ret
    exact ⟨_, rfl, World.ownsRow_nil _ _ _ _, Below.refl _ _⟩
  | some ad =>
    have hnil : ∀ W, (binOp .eql 29 (.slice (some ad) l.length c) (.slice none 0 0)).run Try.prog W = .ok (.bool false) W := fun W => Lib.run_eql_slice_nil W 29 23 (some ad) l.length c 0 0 Try.underlying29
    haveI : Src w (some ad) l.length 1 (ucs l) := ⟨h⟩
    clear h
    go_enter Try.func85, Try.ntmps85
    go_wp2_with (at_builtin; refine wpList_append_w Try.okU rfl (.tmp 5) (.tmp 6) rfl w.heap.size (.slice (some ⟨w.heap.size, 0, none⟩) 0 0) 0 [] l.length (ucs l) ?_ ?_ ?_ ?_ ?_ ?_ ?_ ?_; go_must ((focus (first | rfl | (simp [Act.eval, Act.put]; done))); (focus (exact (World.ownsRow_lit w #[] 0 (Nat.le_refl _) (by unfold maxLen; omega) rfl))); (focus (refine ⟨_, _, rfl, ?_⟩; exact src)); (focus (exact uc_one _)); (focus (unfold maxLen; omega)); (focus omega); (focus (first | omega | (simp; done) | (simp; omega) | exact BoxAt.lt (n := w.heap.size) inferInstance)); intro v1 w1 hown1 hg1; haveI : Stp w w1 := ⟨(below_alloc w _).grown hg1 (by simp) (by simp [Value.ownBlock])⟩; rw [Nat.zero_add, List.nil_append] at hown1; have HO := hide hown1; clear hown1 hg1))
    go_ret
    exact ⟨_, rfl, HO.out, blw⟩
/-- a letter in memory of its own -/
def RetL (w : World) (x : Lc) (e : Ending) (w' : World) : Prop := ∃ BA bc CA cc, e = .returned (x.v BA bc CA cc) ∧ OwnB w' w.heap.size (.slice BA x.b.length bc) x.b ∧ OwnU w' w.heap.size (.slice CA x.c.length cc) x.c ∧ Below w.heap.size w w'
set_option maxRecDepth 100000 in
set_option maxHeartbeats 2000000 in
theorem copyL_s (x : Lc) (BA : Option Addr) (bc : Nat) (CA : Option Addr) (cc : Nat) (w : World) (h : x.Ok w BA CA) : Calls Try.prog 51 #[x.v BA bc CA cc] w (RetL w x) := by
  obtain ⟨k, ⟨fn, fi⟩, r, ⟨sn, si⟩, n, bs, cid, cs, wt⟩ := x
  have h1 := h.bl
  have h2 := h.cl
  have HB := hide h.b
  have HC := hide h.c
  simp only at h1 h2 HB HC
  have T1 := hide (fun W (h : Reads W W.heap.size 1 BA bs.length (bcs bs)) => cloneB_s BA bc bs W h (by omega))
  have T2 := hide (fun W (h : Ul W CA cs) => cloneU_s CA cc cs W h (by omega))
  haveI : Src w BA bs.length 1 (bcs bs) := ⟨HB.out⟩
  clear h
  go_enter Try.func51, Try.ntmps51
  go_wp2_with fail
  (with_reducible refine (T1.out _ src).mono ?_)
  rintro e w1 ⟨v1, rfl, ho1, hb1⟩
  haveI : Stp _ w1 := ⟨hb1⟩
  obtain ⟨A1, c1, rfl, _, _⟩ := own_slice ho1
  have O1 := hide (own_base ho1 (show w.heap.size + 1 + 1 ≤ _ by simp))
  have hs1 : w.heap.size + 1 + 1 ≤ w1.heap.size := by have := hb1.size; simp at this; omega
  haveI : LeN w.heap.size w1.heap.size := ⟨by omega⟩
  haveI : LtN w.heap.size w1.heap.size := ⟨by omega⟩
  haveI : LtN (w.heap.size + 1) w1.heap.size := ⟨by omega⟩
  clear ho1 hb1
  go_wp2_with fail
  (with_reducible refine (T2.out _ HC.out.tc).mono ?_)
  rintro e w2 ⟨v2, rfl, ho2, hb2⟩
  haveI : Stp _ w2 := ⟨hb2⟩
  obtain ⟨A2, c2, rfl, _, _⟩ := own_slice ho2
  have O2 := hide (own_base ho2 (show w1.heap.size ≤ _ by simp))
  clear ho2 hb2
  go_wp2
  refine bodyPost_ret (v := LtV k fn fi r sn si n A1 bs.length c1 cid A2 cs.length c2 wt) (by simp [results, Try.results51, go_sem]) rfl ?_
  refine ⟨_, _, _, _, rfl, own_base (own_kp O1.out) (by omega), own_base (own_kp O2.out) (by omega), blw⟩
set_option maxRecDepth 100000 in
set_option maxHeartbeats 2000000 in
theorem copy10_s (x : Lc) (BA : Option Addr) (bc : Nat) (CA : Option Addr) (cc : Nat) (w : World) (h : x.Ok w BA CA) : Calls Try.prog 13 #[x.v BA bc CA cc] w (RetL w x) := by
  obtain ⟨k, ⟨fn, fi⟩, r, ⟨sn, si⟩, n, bs, cid, cs, wt⟩ := x
  have h1 := h.bl
  have h2 := h.cl
  simp only at h1 h2
  haveI : Src w BA bs.length 1 (bcs bs) := ⟨h.b⟩
  haveI : Src w CA cs.length 1 (ucs cs) := ⟨h.c⟩
  clear h
  go_enter Try.func13, Try.ntmps13
  go_wp2_with (first
    | (at_builtin; refine wpList_append_w Try.okB rfl (.tmp 3) (.tmp 5) rfl (w.heap.size + 1 + 1) (.slice (some ⟨w.heap.size + 1 + 1, 0, none⟩) 0 0) 0 [] bs.length (bcs bs) ?_ ?_ ?_ ?_ ?_ ?_ ?_ ?_; go_must ((focus (first | rfl | (simp [Act.eval, Act.put]; done))); (focus (exact own_eB _ (w.heap.size + 1 + 1) (by simp))); (focus (refine ⟨_, _, rfl, ?_⟩; exact src)); (focus (exact bcs_one _)); (focus (unfold maxLen; omega)); (focus omega); (focus (first | omega | (simp; done) | (simp; omega) | exact BoxAt.lt (n := w.heap.size) inferInstance)); intro v1 w1 ho1 hg1; rw [Nat.zero_add, List.nil_append] at ho1; haveI : StpB (w.heap.size + 1 + 1) _ w1 := ⟨grown_belowB hg1 (by simp) (fun k hk => by have e : w.heap.size + 1 + 1 = k := Option.some.inj hk; omega)⟩; obtain ⟨A1, c1, rfl, _, _⟩ := own_slice ho1; have hs1 : w.heap.size + 1 + 1 ≤ w1.heap.size := (by have := hg1.size; simp at this; exact Nat.le_of_succ_le this); haveI : LeN w.heap.size w1.heap.size := ⟨by omega⟩; haveI : LtN w.heap.size w1.heap.size := ⟨by omega⟩; haveI : LtN (w.heap.size + 1) w1.heap.size := ⟨by omega⟩; have O1 := hide ho1; clear ho1 hg1))
    | (at_builtin; refine wpList_append_w Try.okU rfl (.tmp 8) (.tmp 10) rfl w1.heap.size (.slice (some ⟨w1.heap.size, 0, none⟩) 0 0) 0 [] cs.length (ucs cs) ?_ ?_ ?_ ?_ ?_ ?_ ?_ ?_; go_must ((focus (first | rfl | (simp [Act.eval, Act.put]; done))); (focus (exact own_eU _ w1.heap.size (by simp))); (focus (refine ⟨_, _, rfl, ?_⟩; exact src)); (focus (exact uc_one _)); (focus (unfold maxLen; omega)); (focus omega); (focus (first | omega | (simp; done) | (simp; omega) | exact BoxAt.lt (n := w.heap.size) inferInstance)); intro v2 w2 ho2 hg2; rw [Nat.zero_add, List.nil_append] at ho2; haveI : StpB w1.heap.size _ w2 := ⟨grown_belowB hg2 (by simp) (fun k hk => by have e : w1.heap.size = k := Option.some.inj hk; omega)⟩; obtain ⟨A2, c2, rfl, _, _⟩ := own_slice ho2; have O2 := hide ho2; clear ho2 hg2)))
  refine bodyPost_ret (v := LtV k fn fi r sn si n A1 bs.length c1 cid A2 cs.length c2 wt) (by simp [results, Try.results13, go_sem]) rfl ?_
  refine ⟨_, _, _, _, rfl, own_base (own_kp O1.out) (by omega), own_base (own_kp O2.out) (by omega), blw⟩
end Go.Proofs.Ytmleeohaaipdcaa
