/-
  Layer 16: awake answers true.
-/
import Derived.Test.YtniogmefbjfoaaaGreatZr
import Derived.Test.YtniogmefbjfoaaaGreatTcL
import Derived.Lib.SlBytesConst
import Derived.Test.YtniogmefbjfoaaaGreatPkD3
namespace Go.Proofs.YtniogmefbjfoaaaGreat
set_option linter.unusedSimpArgs false
set_option linter.unusedVariables false
set_option linter.unusedSectionVars false
open Go.RowKit Go.Maps

theorem life16_s (n i : Int) (w : World) : Calls Tryz.prog 10 #[.int .i64 n, .int .u64 i] w fun e w' => e = .returned (.agg #[.int .i64 n, .int .u64 i]) ∧ Below w.heap.size w w' := by
  go_enter Tryz.func10, Tryz.ntmps10
  go_wp2
  refine bodyPost_ret (v := .agg #[.int .i64 n, .int .u64 i]) (by simp [results, Tryz.results10, go_sem]) rfl ?_
  exact ⟨rfl, blw⟩
theorem Tr.cells {C C' : List Nat} {X W : World} (t : Tr C C' X W) {g : Nat} (hg : g < X.heap.size) (hn : g ∉ C) : (∀ j u, X.cell? ⟨g, j, none⟩ = some u → W.cell? ⟨g, j, none⟩ = some u) ∧ g ∉ C' := by
  refine ⟨fun j u h => ?_, fun hm => ?_⟩
  · rw [World.cell?_of_block (w := X) (t.g.blk g hg hn)]; exact h
  · rcases t.n g hm with h1 | h1
    · exact hn h1
    · omega
/-- an answer with one packet -/
theorem AnsM.pk1 {base : Nat} {W : World} {v : Value} {a : An} (h : AnsM base W v a) {x : Pk} (hp : a.ps = [x]) : ∃ (g pc : Nat) (HA : Option Addr) (hc : Nat) (BA : Option Addr) (bc : Nat) (A2 : Option Addr) (c2 : Nat) (A3 : Option Addr) (c3 : Nat), v = .agg #[.slice (some ⟨g, 0, none⟩) 1 pc, .slice A2 a.bs.length c2, .slice A3 a.fl.length c3] ∧ base ≤ g ∧ g < W.heap.size ∧ (∀ (j : Nat) (u : Value), (pmc ⟨x, HA, hc, BA, bc⟩)[j]? = some u → W.cell? ⟨g, j, none⟩ = some u) ∧ PmP base W [] ⟨x, HA, hc, BA, bc⟩ := by
  obtain ⟨pv, ps, bv, cs, fv, rfl, h2, h3, h4, h5, h6⟩ := h
  rw [hp] at h3
  match ps, h3 with
  | [p], h3 =>
    obtain ⟨A1, c1, rfl, _⟩ := own_slice h2.row
    obtain ⟨A2, c2, rfl, _⟩ := own_slice h4.row
    obtain ⟨A3, c3, rfl, _⟩ := own_slice h6
    obtain ⟨g, cap, hv, hb, hg⟩ := h2.row.form (by simp)
    injection hv with e1 e2 e3
    subst e1
    have hx : p.x = x := by simpa using h3
    subst hx
    refine ⟨g, c1, p.HA, p.hc, p.BA, p.bc, A2, c2, A3, c3, by rw [← h5, List.length_map]; rfl, hb, ?_, fun j u hu => ?_, (h2.el p (by simp)).re (fun i hi => by cases hi)⟩
    · exact (h2.row.lt g rfl).2
    · have hr := Reads.of_own h2.row
      obtain ⟨b, off, e, _, hc⟩ := hr.2 (by simp)
      injection e with e
      injection e with e1 e2
      subst e1 e2
      have := hc j u (by simpa [pms] using hu)
      simpa using this
theorem AnsM.bd1 {base : Nat} {W : World} {A1 A2 A3 : Option Addr} {n1 n2 n3 c1 c2 c3 : Nat} {a : An} (h : AnsM base W (.agg #[.slice A1 n1 c1, .slice A2 n2 c2, .slice A3 n3 c3]) a) {n i : Int} {bs : List Int} (hp : a.bs = [((n, i), bs)]) : ∃ (g : Nat) (b : Bd), A2 = some ⟨g, 0, none⟩ ∧ b.bs = bs ∧ base ≤ g ∧ g < W.heap.size ∧ (∀ (j : Nat) (u : Value), (cbc ⟨n, i, b⟩)[j]? = some u → W.cell? ⟨g, j, none⟩ = some u) ∧ BdP base W [] b := by
  obtain ⟨pv, ps, bv, cs, fv, hv0, h2, h3, h4, h5, h6⟩ := h
  injection hv0 with hv0
  rw [hp] at h5
  match cs, h5 with
  | [p], h5 =>
    obtain ⟨A2', c2', rfl, _⟩ := own_slice h4.row
    obtain ⟨g, cap, hv, hb, hg⟩ := h4.row.form (by simp)
    injection hv with e1 e2 e3
    subst e1
    have e4 : A2 = some ⟨g, 0, none⟩ := by
      have := congrArg (fun a : Array Value => a[1]?) hv0
      simp at this
      exact this.1
    have hx : p.n = n ∧ p.i = i ∧ p.b.bs = bs := by simpa [Cb.pl, and_assoc] using h5
    obtain ⟨rfl, rfl, hx⟩ := hx
    refine ⟨g, p.b, e4, hx, hb, (h4.row.lt g rfl).2, fun j u hu => ?_, (h4.el p (by simp)).re (fun i hi => by cases hi)⟩
    have hr := Reads.of_own h4.row
    obtain ⟨b, off, e, _, hc⟩ := hr.2 (by simp)
    injection e with e
    injection e with e1 e2
    subst e1 e2
    have := hc j u (by simpa [cbs] using hu)
    simpa using this
theorem ro_box {W : World} {m : Nat} {cs : Array Value} {t : TypeId} {C : List Nat} {l : List Value} {n : Nat} (h : BoxAt W m cs t) (e : cs.toList = l) (hn : l.length = n) (hC : m ∉ C) : RO W C 1 (some ⟨m, 0, none⟩) n l :=
  ⟨⟨by omega, fun _ => ⟨m, 0, rfl, h.lt, fun j u hu => by
    rw [Nat.zero_add, cell?_box]
    rw [← e] at hu
    simpa using hu⟩⟩, fun _ a ha hm => by injection ha with ha; subst ha; exact hC hm⟩
theorem ro_mark {w W : World} {cs : Array Value} {t : TypeId} {fz : Nat × Nat} {C : List Nat} {l : List Value} {n : Nat} (hb : Below (w.alloc (.cells cs t fz)).heap.size (w.alloc (.cells cs t fz)) W) (e : cs.toList = l) (hn : l.length = n) (hC : w.heap.size ∉ C) : RO W C 1 (some ⟨w.heap.size, 0, none⟩) n l :=
  RO.tr ⟨⟨by omega, fun _ => ⟨w.heap.size, 0, rfl, by simp, fun j u hu => by
    rw [Nat.zero_add, World.cell?_alloc_mark]
    rw [← e] at hu
    simpa using hu⟩⟩, fun _ a ha hm => by injection ha with ha; subst ha; exact hC hm⟩ (.bel hb)
theorem lt_no {C : List Nat} {B m : Nat} (h : ∀ i ∈ C, i < B) (hm : B ≤ m) : m ∉ C := fun hi => by have := h m hi; omega
set_option maxRecDepth 100000 in
set_option maxHeartbeats 16000000 in
theorem awake16_t (w : World) : Calls Tryz.prog 5 #[] w (RetB w true) := by
  have N1 := hide (fun W => new_s 5 1 W (by decide +kernel) (by decide) (by decide) (by decide))
  have N2 := hide (fun W => new_s 6 1 W (by decide +kernel) (by decide) (by decide) (by decide))
  have kc := fun (w : World) (C : Array Value) (n c : Nat) => Lib.run_convert_bytes_const (P := Tryz.prog) w 37 5 C n c Tryz.underlying37 Tryz.underlying5
  have kc2 := fun (w : World) (o : Obj) (C : Array Value) (n c : Nat) => kc (w.alloc o) C n c
  simp only [World.size_alloc] at kc2
  go_enter Tryz.func5, Tryz.ntmps5
  go_wp2_with (go_at_call 10; (with_reducible refine (life16_s _ _ _).mono ?_); rintro e w9 ⟨rfl, hb9⟩; haveI : Stp _ w9 := ⟨hb9⟩; clear hb9)
  (with_reducible refine (N1.out _).mono ?_)
  rintro e w1 ⟨x, C1, rfl, hx, hC1, _, hb1⟩
  haveI : Stp _ w1 := ⟨hb1⟩
  have HC1 := hide (fun j (hj : j ∈ C1) => Nat.le_trans (Blw.size (a := w) inferInstance) (hC1 j hj))
  have HX0 := hide (hx [] (by simp))
  clear hx hC1 hb1 N1
  go_wp2_with (go_at_call 10; (with_reducible refine (life16_s _ _ _).mono ?_); rintro e w9 ⟨rfl, hb9⟩; haveI : Stp _ w9 := ⟨hb9⟩; clear hb9)
  (with_reducible refine (N2.out _).mono ?_)
  rintro e w2 ⟨y, C2, rfl, hy, hC2, _, hb2⟩
  have HT0 := hide (Tw.new (EnO.below HX0.out blw) hy hC2 hb2)
  haveI : Stp _ w2 := ⟨hb2⟩
  have HC2 := hide (fun j (hj : j ∈ C2) => Nat.le_trans (Blw.size (a := w) inferInstance) (hC2 j hj))
  clear hy hC2 hb2 N2 HX0
  go_wp2_with fail
  refine (reliable_o (HT0.out.below blw) _ _ [6, 7] (ro_box (inferInstance : BoxAt _ w2.heap.size #[.int .i64 6, .int .i64 7] 3) rfl rfl (lt_no HT0.out.lx (Nat.le_refl _))) (by simp)).mono ?_
  rintro e w3 ⟨rfl, ht3, hg3⟩
  haveI : StpB w.heap.size _ w3 := ⟨hg3.below (Blw.size inferInstance) HC1.out⟩
  have HT3 := hide ht3
  clear ht3 hg3 HT0
  go_wp2_with fail
  refine (send_o (Cx := C1) (Cy := C2) (x := x) (y := y) (mx := awX) (my := En.new 6 1) ?_ 1 (by decide) (by decide) _ _ [97] ?_ (by simp) _ _ [7, 6, 7] ?_ (by simp) (by intro n hn; simp at hn; rcases hn with rfl | rfl | rfl <;> exact ⟨by decide, by decide⟩)).mono ?_
  · exact HT3.out.below blw
  · exact ro_mark (cs := #[.int .u8 97]) (t := 5) (fz := (1, 2)) blw rfl rfl (lt_no HT3.out.lx (Nat.le_refl _))
  · exact ro_box (inferInstance : BoxAt _ (w3.heap.size + 1) #[.int .i64 7, .int .i64 6, .int .i64 7] 3) rfl rfl (lt_no HT3.out.lx (Nat.le_succ _))
  rintro e w4 ⟨v4, rfl, ha4, ht4, hg4⟩
  replace ha4 : AnsM _ w4 v4 awS.2.1 := ha4
  replace ht4 : Tw w4 C1 C2 x y awS.1 (En.new 6 1) := ht4
  obtain ⟨g4, pc4, HA4, hc4, BA4, bc4, A42, c42, A43, c43, rfl, hg41, hg42, hcl4, hpp4⟩ := ha4.pk1 aw2
  have he4 : (awX.send 1 [97] [7, 6, 7]).2.2 = 0 := aw1
  rw [he4]
  haveI : StpB w.heap.size _ w4 := ⟨hg4.below (Blw.size inferInstance) HC1.out⟩
  have HT4 := hide ht4
  have HP4 := hide hpp4
  haveI : CellAt w4 g4 0 (.int .i64 2) := ⟨hg42, hcl4 0 _ rfl⟩
  haveI : CellAt w4 g4 1 (.int .i64 5) := ⟨hg42, hcl4 1 _ rfl⟩
  haveI : CellAt w4 g4 2 (.int .u64 1) := ⟨hg42, hcl4 2 _ rfl⟩
  haveI : CellAt w4 g4 3 (.int .i64 8) := ⟨hg42, hcl4 3 _ rfl⟩
  haveI : CellAt w4 g4 4 (.slice HA4 2 hc4) := ⟨hg42, hcl4 4 _ rfl⟩
  haveI : CellAt w4 g4 5 (.slice BA4 1 bc4) := ⟨hg42, hcl4 5 _ rfl⟩
  haveI : CellAt w4 g4 6 (.int .i64 0) := ⟨hg42, hcl4 6 _ rfl⟩
  haveI : CellAt w4 g4 7 (.int .u64 0) := ⟨hg42, hcl4 7 _ rfl⟩
  haveI : CellAt w4 g4 8 (.int .u64 0) := ⟨hg42, hcl4 8 _ rfl⟩
  haveI : CellAt w4 g4 9 (.slice none 0 0) := ⟨hg42, hcl4 9 _ rfl⟩
  clear ha4 ht4 hpp4 hcl4 hg4 he4
  obtain ⟨n42, hn42⟩ : ∃ n, n = awS.2.1.bs.length := ⟨_, rfl⟩
  obtain ⟨n43, hn43⟩ : ∃ n, n = awS.2.1.fl.length := ⟨_, rfl⟩
  rw [← hn42, ← hn43]
  clear hn42 hn43
  go_wp2_with fail
  refine (take_o (Cx := C2) (Cy := C1) (x := y) (y := x) (mx := En.new 6 1) (my := awS.1) ?_ 1 (by decide) (by decide) pkA HA4 hc4 BA4 bc4 none 0 ?_ ?_).mono ?_
  · exact HT4.out.swap.below blw
  · exact PkIn.stp (a := w4) ⟨HP4.out.h.1, HP4.out.b.1, sl_nil _, by simp, by simp, by simp⟩ blw
  · exact (HP4.out.re (D := C2) (fun i hi => .inr (.inl (Nat.lt_of_lt_of_le (HT3.out.ly i hi) (Blw.size (a := w3) inferInstance))))).b.tr (.bel blw)
  rintro e w5 ⟨v5, C2', rfl, ha5, ht5, hr5⟩
  replace ha5 : AnsM _ w5 v5 awY.2 := ha5
  replace ht5 : Tw w5 C2' C1 y x awY.1 awS.1 := ht5
  obtain ⟨g5, pc5, HA5, hc5, BA5, bc5, A52, c52, A53, c53, rfl, hg51, hg52, hcl5, hpp5⟩ := ha5.pk1 aw3
  obtain ⟨g5b, b5, rfl, hb5, hg5b1, hg5b2, hcb5, hbp5⟩ := ha5.bd1 aw4
  have hlen5 : awY.2.bs.length = 1 := by rw [aw4]; rfl
  rw [hlen5]
  obtain ⟨n53, hn53⟩ : ∃ n, n = awY.2.fl.length := ⟨_, rfl⟩
  rw [← hn53]
  clear hn53 hlen5
  haveI : StpB w.heap.size _ w5 := ⟨hr5.g.below (Blw.size inferInstance) HC2.out⟩
  have HT5 := hide ht5.swap
  have HP5 := hide hpp5
  haveI : CellAt w5 g5 0 (.int .i64 3) := ⟨hg52, hcl5 0 _ rfl⟩
  haveI : CellAt w5 g5 1 (.int .i64 6) := ⟨hg52, hcl5 1 _ rfl⟩
  haveI : CellAt w5 g5 2 (.int .u64 1) := ⟨hg52, hcl5 2 _ rfl⟩
  haveI : CellAt w5 g5 3 (.int .i64 8) := ⟨hg52, hcl5 3 _ rfl⟩
  haveI : CellAt w5 g5 4 (.slice HA5 1 hc5) := ⟨hg52, hcl5 4 _ rfl⟩
  haveI : CellAt w5 g5 5 (.slice BA5 0 bc5) := ⟨hg52, hcl5 5 _ rfl⟩
  haveI : CellAt w5 g5 6 (.int .i64 0) := ⟨hg52, hcl5 6 _ rfl⟩
  haveI : CellAt w5 g5 7 (.int .u64 0) := ⟨hg52, hcl5 7 _ rfl⟩
  haveI : CellAt w5 g5 8 (.int .u64 0) := ⟨hg52, hcl5 8 _ rfl⟩
  haveI : CellAt w5 g5 9 (.slice none 0 0) := ⟨hg52, hcl5 9 _ rfl⟩
  have HCB5 := hide hcb5
  have HBP5 := hide hbp5
  have hbs : b5.bs = [97] := hb5
  have HBS := hide hbs
  have hz5 : w4.heap.size ≤ w5.heap.size := Nat.le_trans (by simp) hr5.g.size
  have HB51 := hide hg5b1
  have HL4 := hide (fun i (hi : i ∈ C1) => HT4.out.lx i hi)
  have HG51 := hide hg51
  clear ha5 ht5 hr5 hpp5 hcl5 hcb5 hbp5 hb5 hbs hg5b1 hg51 HT4 HP4
  go_wp2_with fail
  refine (take_o (Cx := C1) (Cy := C2') (x := x) (y := y) (mx := awS.1) (my := awY.1) ?_ 1 (by decide) (by decide) pkB HA5 hc5 BA5 bc5 none 0 ?_ ?_).mono ?_
  · exact HT5.out.below blw
  · exact PkIn.stp (a := w5) ⟨HP5.out.h.1, HP5.out.b.1, sl_nil _, by simp, by simp, by simp⟩ blw
  · exact RO.nil _ _ _ _
  rintro e w6 ⟨v6, C1', rfl, ha6, ht6, hr6⟩
  replace ht6 : Tw w6 C1' C2' x y awT.1 awY.1 := ht6
  obtain ⟨A61, c61, A62, c62, A63, c63, rfl⟩ := ha6.form
  haveI : StpB w.heap.size _ w6 := ⟨hr6.g.below (Blw.size inferInstance) HC1.out⟩
  have HC6 := hide (hr6.ge HC1.out (Blw.size inferInstance))
  have HT6 := hide ht6
  have HR6 := hide hr6
  clear ha6 ht6 hr6 HP5
  go_wp2_with fail
  refine (tick_o (Cx := C1') (Cy := C2') (x := x) (y := y) (mx := awT.1) (my := awY.1) ?_ 3 (by decide) (by decide)).mono ?_
  · exact HT6.out.below blw
  rintro e w7 ⟨v7, rfl, ha7, ht7, hr7⟩
  replace ha7 : AnsM _ w7 v7 awC.2 := ha7
  replace ht7 : Tw w7 C1' C2' x y awC.1 awY.1 := ht7
  obtain ⟨g7, pc7, HA7, hc7, BA7, bc7, A72, c72, A73, c73, rfl, hg71, hg72, hcl7, hpp7⟩ := ha7.pk1 aw5
  haveI : StpB w.heap.size _ w7 := ⟨hr7.below (Blw.size inferInstance) HC6.out⟩
  have HT7 := hide ht7
  have HR7 := hide hr7
  have HC7 := hide hcl7
  have HG71 := hide hg71
  obtain ⟨n72, hn72⟩ : ∃ n, n = awC.2.bs.length := ⟨_, rfl⟩
  obtain ⟨n73, hn73⟩ : ∃ n, n = awC.2.fl.length := ⟨_, rfl⟩
  rw [← hn72, ← hn73]
  clear ha7 ht7 hr7 hcl7 hg71 hpp7 hn72 hn73
  go_wp2_with fail
  refine (send_o (Cx := C1') (Cy := C2') (x := x) (y := y) (mx := awC.1) (my := awY.1) ?_ 3 (by decide) (by decide) _ _ [99] ?_ (by simp) _ _ [8] ?_ (by simp) (by intro n hn; simp at hn; subst hn; exact ⟨by decide, by decide⟩)).mono ?_
  · exact HT7.out.below blw
  · have k : ∀ W, Below ((w7.alloc (.cells #[.slice (some ⟨g7, 0, none⟩) 1 pc7, .slice A72 n72 c72, .slice A73 n73 c73] 52)).alloc (.cells #[.int .u8 99] 5 (1, 2))).heap.size ((w7.alloc (.cells #[.slice (some ⟨g7, 0, none⟩) 1 pc7, .slice A72 n72 c72, .slice A73 n73 c73] 52)).alloc (.cells #[.int .u8 99] 5 (1, 2))) W → RO W C1' 1 (some ⟨w7.heap.size + 1, 0, none⟩) [(99 : Int)].length (bcs [99]) := fun W hb => by
      have := ro_mark (w := w7.alloc (.cells #[.slice (some ⟨g7, 0, none⟩) 1 pc7, .slice A72 n72 c72, .slice A73 n73 c73] 52)) (cs := #[.int .u8 99]) (t := 5) (fz := (1, 2)) (C := C1') (l := bcs [99]) (n := [(99 : Int)].length) hb rfl rfl (lt_no HT7.out.lx (by simp))
      simpa only [World.size_alloc] using this
    exact k _ blw
  · exact ro_box (inferInstance : BoxAt _ (w7.heap.size + 1 + 1) #[.int .i64 8] 3) rfl rfl (lt_no HT7.out.lx (by omega))
  rintro e w8 ⟨v8, rfl, ha8, ht8, hg8⟩
  have he8 : (awC.1.send 3 [99] [8]).2.2 = 5 := aw6
  rw [he8]
  replace ht8 : Tw w8 C1' C2' x y awF.1 awY.1 := ht8
  obtain ⟨A81, c81, A82, c82, A83, c83, rfl⟩ := ha8.form
  obtain ⟨n81, hn81⟩ : ∃ n, n = (awC.1.send 3 [99] [8]).2.1.ps.length := ⟨_, rfl⟩
  obtain ⟨n82, hn82⟩ : ∃ n, n = (awC.1.send 3 [99] [8]).2.1.bs.length := ⟨_, rfl⟩
  obtain ⟨n83, hn83⟩ : ∃ n, n = (awC.1.send 3 [99] [8]).2.1.fl.length := ⟨_, rfl⟩
  rw [← hn81, ← hn82, ← hn83]
  haveI : StpB w.heap.size _ w8 := ⟨hg8.below (Blw.size inferInstance) HC6.out⟩
  have HT8 := hide ht8
  have t78 : Tr C1' C1' w7 w8 := (Tr.bel (by exact blw)).trans (.of hg8)
  have t58 : Tr C1 C1' (w5.alloc (.cells #[.slice (some ⟨g5, 0, none⟩) 1 pc5, .slice (some ⟨g5b, 0, none⟩) 1 c52, .slice A53 n53 c53] 52)) w8 := HR6.out.trans ((Tr.of HR7.out).trans t78)
  have t55 : Tr C1 C1' w5 w8 := (Tr.bel (below_alloc _ _)).trans t58
  haveI := (t58.box (n := w5.heap.size) inferInstance (lt_no HT5.out.lx (Nat.le_refl _))).1
  haveI := ((Tr.of hg8).box (n := w7.heap.size) inferInstance (lt_no HT7.out.lx (Nat.le_refl _))).1
  have hgb : g5b ∉ C1 := lt_no HL4.out (Nat.le_trans (by simp) HB51.out)
  have hk5 := (t55.cells hg5b2 hgb).1
  have hb8 : g5b < w8.heap.size := Nat.lt_of_lt_of_le hg5b2 t55.g.size
  have hbl : b5.bs.length = 1 := by rw [HBS.out]; rfl
  haveI : CellAt w8 g5b 0 (.int .i64 5) := ⟨hb8, hk5 _ _ (HCB5.out 0 _ rfl)⟩
  haveI : CellAt w8 g5b 1 (.int .u64 1) := ⟨hb8, hk5 _ _ (HCB5.out 1 _ rfl)⟩
  haveI : CellAt w8 g5b 2 (.slice b5.A 1 b5.c) := ⟨hb8, hk5 _ _ (HCB5.out 2 _ (by rw [← hbl]; rfl))⟩
  have hg7n : g7 ∉ C1' := lt_no HT6.out.lx HG71.out
  haveI : CellAt w8 g7 4 (.slice HA7 1 hc7) := ⟨Nat.lt_of_lt_of_le hg72 t78.g.size, (t78.cells hg72 hg7n).1 _ _ (HC7.out 4 _ rfl)⟩
  haveI : RdY w8 b5.A 1 [97] := ⟨by
    have h1 := (((HBP5.out.re (D := C1) (fun i hi => .inr (.inl (Nat.lt_of_lt_of_le (HL4.out i hi) (by simp))))).r).tr t55).1
    rw [HBS.out] at h1
    exact h1⟩
  have aw7' : Hid (∀ W, Below w8.heap.size w8 W → Calls Tryz.prog 15 #[.pointer (some ⟨x, 0, none⟩), .int .i64 6] W fun e W' => e = .returned (.int .i64 0) ∧ W = W') := hide (fun W hW => by
    have := waits_o (HT8.out.below hW) 6 ⟨by decide, by decide⟩
    rw [aw7] at this
    exact this)
  have aw8' : Hid (∀ W, Below w8.heap.size w8 W → Calls Tryz.prog 15 #[.pointer (some ⟨x, 0, none⟩), .int .i64 7] W fun e W' => e = .returned (.int .i64 1) ∧ W = W') := hide (fun W hW => by
    have := waits_o (HT8.out.below hW) 7 ⟨by decide, by decide⟩
    rw [aw8] at this
    exact this)
  clear ha8 ht8 hg8 he8 hn81 hn82 hn83 t78 t58 t55 hk5 hbl
  go_upto_region 15 with fail
  have hstr : strOfNums [97] = ⟨#[97]⟩ := by rfl
  have hun : ∀ b : Bool, (some undef = some (Value.bool b)) = False := fun b => by simp [undef]
  go_region_held (fun w' => w'.cell? ⟨w5.heap.size, 1, none⟩ = some (.slice (some ⟨g5b, 0, none⟩) 1 c52) ∧ w'.cell? ⟨g5b, 0, none⟩ = some (.int .i64 5) ∧ w'.cell? ⟨g5b, 1, none⟩ = some (.int .u64 1) ∧ w'.cell? ⟨g5b, 2, none⟩ = some (.slice b5.A 1 b5.c) ∧ w'.cell? ⟨w7.heap.size, 0, none⟩ = some (.slice (some ⟨g7, 0, none⟩) 1 pc7) ∧ w'.cell? ⟨g7, 4, none⟩ = some (.slice HA7 1 hc7)) ((refine ⟨?_, ?_, ?_, ?_, ?_, ?_⟩ <;> (first | (rw [cell?_box]; rfl) | exact CellAt.h)))
    (first
      | (go_at_call 10; (with_reducible refine (life16_s _ _ _).mono ?_); rintro e w9 ⟨rfl, hb9⟩; haveI : Stp _ w9 := ⟨hb9⟩; clear hb9)
      | (go_at_call 15; (with_reducible refine (aw7'.out _ blw).mono ?_); rintro e w9 ⟨rfl, rfl⟩)
      | (go_at_call 15; (with_reducible refine (aw8'.out _ blw).mono ?_); rintro e w9 ⟨rfl, rfl⟩)
      | fail)
  all_goals
    go_wp2_with fail
    go_ret
    exact ⟨rfl, blw⟩
end Go.Proofs.YtniogmefbjfoaaaGreat

namespace Go.Proofs.YtniogmefbjfoaaaGreat
set_option linter.unusedSimpArgs false
set_option linter.unusedVariables false
set_option linter.unusedSectionVars false
open Go.RowKit Go.Maps

theorem w64_in16 {x : Int} (h0 : -9223372036854775808 ≤ x) (h1 : x ≤ 9223372036854775807) : wrap64 x = x := by unfold wrap64; omega
/-- a step in memory -/
structure Sx where
  d : Int
  now : Int
  NA : Option Addr
  nc : Nat
  ns : List Int
  BA : Option Addr
  bc : Nat
  bd : List Int
  x : Pk
  HA : Option Addr
  hc : Nat
  QA : Option Addr
  qc : Nat
  PA : Option Addr
  pc : Nat
  deriving Inhabited
def sxc (s : Sx) : List Value := [.int .i64 s.d, .int .u64 s.now, .slice s.NA s.ns.length s.nc, .slice s.BA s.bd.length s.bc, .int .i64 s.x.k, .int .i64 s.x.n, .int .u64 s.x.i, .int .i64 s.x.hp, .slice s.HA s.x.hs.length s.hc, .slice s.QA s.x.bs.length s.qc, .int .i64 s.x.an, .int .u64 s.x.ai, .int .u64 s.x.sq, .slice s.PA s.x.ps.length s.pc]
def sxcs (l : List Sx) : List Value := l.flatMap sxc
theorem sxc_len (s : Sx) : (sxc s).length = 14 := rfl
theorem sxcs_len (l : List Sx) : (sxcs l).length = l.length * 14 := flat_length sxc_len l
def fewN (s : Sx) : Nat := s.ns.length + s.x.hs.length + s.x.ps.length + (s.bd.length + s.x.bs.length) / 128
def fewS (l : List Sx) : Nat := (l.map fewN).sum
def fewB (l : List Sx) : Bool := decide (l.length ≤ 400) && decide (fewS l ≤ 4000)
/-- its rows are rows of a machine -/
def Sx.small (s : Sx) : Prop := s.ns.length ≤ 140737488355328 ∧ s.x.hs.length ≤ 140737488355328 ∧ s.x.ps.length ≤ 140737488355328 ∧ s.bd.length ≤ 140737488355328 ∧ s.x.bs.length ≤ 140737488355328
theorem fewS_le (l : List Sx) (hs : ∀ s ∈ l, s.small) : fewS l ≤ l.length * 844424930131968 := by
  induction l with
  | nil => simp [fewS]
  | cons s l ih =>
    have h1 := ih (fun t ht => hs t (List.mem_cons_of_mem _ ht))
    obtain ⟨a, b, c, d, e⟩ := hs s List.mem_cons_self
    unfold fewS at h1 ⊢
    rw [List.map_cons, List.sum_cons, List.length_cons]
    unfold fewN at h1 ⊢
    omega
theorem Reads.atSx {w : World} {B : Nat} {A : Option Addr} {n k : Nat} {l : List Sx} (h : Reads w B 14 A n (sxcs l)) (hk : k < n) :
    ∃ b off s, A = some ⟨b, off, none⟩ ∧ b < B ∧ l[k]? = some s ∧ ∀ j u, (sxc s)[j]? = some u → w.cell? ⟨b, off + k * 14 + j, none⟩ = some u := by
  obtain ⟨b, off, rfl, hb, hcl⟩ := h.2 (by omega)
  have hl : k < l.length := by have := h.1; rw [sxcs_len] at this; omega
  have hp : l[k]? = some l[k] := List.getElem?_eq_getElem hl
  refine ⟨b, off, l[k], rfl, hb, hp, fun j u hu => ?_⟩
  have hj : j < 14 := (List.getElem?_eq_some_iff.1 hu).1
  have := hcl (k * 14 + j) u (by rw [sxcs, flat_get sxc_len l k j _ hp hj]; exact hu)
  rw [Nat.add_assoc]
  exact this
theorem few_sum {F n h p b q : Nat} (h0 : F ≤ 400 * 844424930131968) (a1 : n ≤ 140737488355328) (a2 : h ≤ 140737488355328) (a3 : p ≤ 140737488355328) (a4 : b ≤ 140737488355328) (a5 : q ≤ 140737488355328) :
    wrap64 ((F : Int) + wrap64 (wrap64 (wrap64 ((n : Int) + h) + p) + wrap64 ((wrap64 ((b : Int) + q)).tdiv 128))) = ((F + (n + h + p + (b + q) / 128) : Nat) : Int) := by
  have t1 : wrap64 ((b : Int) + (q : Int)) = ((b + q : Nat) : Int) := by rw [w64_in16 (by omega) (by omega)]; omega
  have t2 : ((b + q : Nat) : Int).tdiv 128 = (((b + q) / 128 : Nat) : Int) := by rw [Int.tdiv_eq_ediv_of_nonneg (by omega)]; omega
  rw [t1, t2]
  obtain ⟨d, hd, hd2⟩ : ∃ d : Nat, d = (b + q) / 128 ∧ d ≤ 2199023255552 := ⟨_, rfl, by omega⟩
  rw [← hd]
  rw [w64_in16 (x := (n : Int) + h) (by omega) (by omega), w64_in16 (x := (n : Int) + h + p) (by omega) (by omega), w64_in16 (x := (d : Int)) (by omega) (by omega), w64_in16 (x := (n : Int) + h + p + d) (by omega) (by omega), w64_in16 (by omega) (by omega)]
  omega
def RetFew (w : World) (l : List Sx) (e : Ending) (w' : World) : Prop := ∃ b, e = .returned (.bool b) ∧ Below w.heap.size w w' ∧ ((∀ s ∈ l, s.small) → b = fewB l)
set_option maxRecDepth 100000 in
set_option maxHeartbeats 4000000 in
theorem few16_s (w : World) (A : Option Addr) (c : Nat) (l : List Sx) (h : Reads w w.heap.size 14 A l.length (sxcs l)) : Calls Tryz.prog 4 #[.slice A l.length c] w (RetFew w l) := by
  have H := hide h
  clear h
  by_cases h4 : 400 < l.length
  · have e4 : decide ((400 : Int) < (l.length : Int)) = true := decide_eq_true (by omega)
    have e4n : decide (400 < l.length) = true := decide_eq_true h4
    have HF : Hid (fewB l = false) := hide (by unfold fewB; rw [decide_eq_false (by omega : ¬ l.length ≤ 400)]; rfl)
    clear h4
    go_enter Tryz.func4, Tryz.ntmps4
    go_wp2_with fail
    go_ret
    exact ⟨_, rfl, blw, fun _ => HF.out.symm⟩
  · have e4 : decide ((400 : Int) < (l.length : Int)) = false := decide_eq_false (by omega)
    have e4n : decide (400 < l.length) = false := decide_eq_false h4
    have hl : l.length ≤ 400 := by omega
    clear h4
    go_enter Tryz.func4, Tryz.ntmps4
    go_wp2_with fail
    go_loopw [4, 3] (fun i n wr => ∃ (k : Nat) (z : Int), k ≤ l.length ∧ i = .int .i64 k ∧ n = .int .i64 z ∧ Below w.heap.size w wr ∧ ((∀ s ∈ l, s.small) → z = fewS (l.take k))) (fun i _ _ => l.length - (intOf i).toNat)
    case atStart => exact ⟨0, 0, Nat.zero_le _, rfl, rfl, blw, fun _ => by simp [fewS]⟩
    case round =>
      obtain ⟨k, z, hk, rfl, rfl, hBw, hz⟩ := hrel
      haveI : Blw w wr := ⟨hBw⟩
      have H := hide ((H.out.below hBw).more hBw.size)
      clear hBw
      have HZ := hide hz
      clear hz
      by_cases hlt : k < l.length
      · obtain ⟨b, off, s, rfl, hb, hs, hcl⟩ := Reads.atSx H.out hlt
        have HS := hide hs
        haveI : CellAt wr b (off + k * 14 + 2) (.slice s.NA s.ns.length s.nc) := ⟨hb, hcl 2 _ rfl⟩
        haveI : CellAt wr b (off + k * 14 + 3) (.slice s.BA s.bd.length s.bc) := ⟨hb, hcl 3 _ rfl⟩
        haveI : CellAt wr b (off + k * 14 + 8) (.slice s.HA s.x.hs.length s.hc) := ⟨hb, hcl 8 _ rfl⟩
        haveI : CellAt wr b (off + k * 14 + 9) (.slice s.QA s.x.bs.length s.qc) := ⟨hb, hcl 9 _ rfl⟩
        haveI : CellAt wr b (off + k * 14 + 13) (.slice s.PA s.x.ps.length s.pc) := ⟨hb, hcl 13 _ rfl⟩
        have i0 : (0 : Int) ≤ (k : Int) := by omega
        have i1 : (k : Int) < (l.length : Int) := by omega
        clear hb hs hcl
        go_upto_region 7 with fail
        (refine wp_region_gw (by kernel_rfl) (by kernel_rfl) ?_; (repeat (go_big_quiet_step ((fail)))); refine wpQuiet_nil ?_; intro _ hw'; obtain ⟨⟨dq, osq⟩, hw''⟩ := hw'; subst hw'')
        go_wp2_with fail
        go_roundw
        case rel =>
          refine ⟨k + 1, _, by omega, by go_num, rfl, blw, fun hsm => ?_⟩
          have h1 := HZ.out hsm
          have h2 := fewS_le (l.take k) (fun t ht => hsm t (List.mem_of_mem_take ht))
          have h3 : fewS (l.take (k + 1)) = fewS (l.take k) + fewN s := by rw [take_succ_of HS.out]; simp [fewS]
          obtain ⟨a1, a2, a3, a4, a5⟩ := hsm s (List.mem_of_getElem? HS.out)
          have h4 : (l.take k).length ≤ 400 := by rw [List.length_take]; omega
          rw [h3, h1]
          unfold fewN
          exact few_sum (Nat.le_trans h2 (Nat.mul_le_mul_right _ h4)) a1 a2 a3 a4 a5
        case measure => simp [intOf]; omega
      · have hke : k = l.length := by omega
        subst hke
        go_wp2_with fail
        go_ret
        refine ⟨_, rfl, blw, fun hsm => ?_⟩
        have h1 := HZ.out hsm
        rw [List.take_length] at h1
        unfold fewB
        rw [decide_eq_true hl, Bool.true_and, h1]
        exact decide_eq_decide.2 (by omega)
end Go.Proofs.YtniogmefbjfoaaaGreat
