/-
  Layer 16, the document's: a sender and a receiver (the document's layer 7).
-/
import Derived.Test.YtniogmefbjfoaaaGreatNd
import Derived.Test.YtniogmefbjfoaaaGreatOpSx
namespace Go.Proofs.YtniogmefbjfoaaaGreat
set_option linter.unusedSimpArgs false
set_option linter.unusedVariables false
set_option linter.unusedSectionVars false
open Go.RowKit Go.Maps

theorem count7_b (x : Int) (w : World) : Calls Tryz.prog 18 #[.int .u64 x] w (RetB w (decide (x < 34359738368))) := by
  go_enter Tryz.func18, Tryz.ntmps18
  go_wp2_with fail
  go_ret
  exact ⟨rfl, blw⟩
theorem node7_b (n : Int) (w : World) : Calls Tryz.prog 66 #[.int .i64 n] w (RetB w (decide (1 ≤ n ∧ n ≤ 10))) := by
  by_cases h1 : 1 ≤ n
  · have d1 : decide (1 ≤ n) = true := decide_eq_true h1
    by_cases h2 : n ≤ 10
    · have d2 : decide (n ≤ 10) = true := decide_eq_true h2
      have e : decide (1 ≤ n ∧ n ≤ 10) = true := decide_eq_true ⟨h1, h2⟩
      rw [e]
      clear h1 h2 e
      go_enter Tryz.func66, Tryz.ntmps66
      go_wp2_with fail
      go_ret
      exact ⟨rfl, blw⟩
    · have d2 : decide (n ≤ 10) = false := decide_eq_false h2
      have e : decide (1 ≤ n ∧ n ≤ 10) = false := decide_eq_false (fun h => h2 h.2)
      rw [e]
      clear h1 h2 e
      go_enter Tryz.func66, Tryz.ntmps66
      go_wp2_with fail
      go_ret
      exact ⟨rfl, blw⟩
  · have d1 : decide (1 ≤ n) = false := decide_eq_false h1
    have e : decide (1 ≤ n ∧ n ≤ 10) = false := decide_eq_false (fun h => h1 h.1)
    rw [e]
    clear h1 e
    go_enter Tryz.func66, Tryz.ntmps66
    go_wp2_with fail
    go_ret
    exact ⟨rfl, blw⟩
theorem body7_b (A : Option Addr) (n c : Nat) (w : World) (h0 : 1 ≤ n) (h1 : n ≤ 448) : Calls Tryz.prog 68 #[.slice A n c] w (RetB w true) := by
  have d0 : decide ((0 : Int) < (n : Int)) = true := decide_eq_true (by omega)
  have d0n : decide (0 < n) = true := decide_eq_true (by omega)
  have d1 : decide ((n : Int) ≤ 448) = true := decide_eq_true (by omega)
  have d1n : decide (n ≤ 448) = true := decide_eq_true h1
  go_enter Tryz.func68, Tryz.ntmps68
  go_wp2_with fail
  go_ret
  exact ⟨rfl, blw⟩
set_option maxRecDepth 100000 in
set_option maxHeartbeats 4000000 in
theorem may7_s (ba : Int) (A : Option Addr) (c : Nat) (ds : List Bd) (w : World) (h : BdsR w A ds) (hl : ds.length ≤ 48) (hb0 : 0 ≤ ba) (hb : ba + ds.length ≤ 34359738367) (ho : ∀ d ∈ ds, 1 ≤ d.bs.length ∧ d.bs.length ≤ 320) :
    Calls Tryz.prog 67 #[sndV ba A ds.length c] w (RetB w true) := by
  have HD := hide h
  have HO := hide ho
  have e1 : decide ((48 : Int) < (ds.length : Int)) = false := decide_eq_false (by omega)
  have e1n : decide (48 < ds.length) = false := decide_eq_false (by omega)
  have T1 : Hid (∀ W, Calls Tryz.prog 18 #[.int .u64 ba] W (RetB W true)) := hide (fun W => by
    have := count7_b ba W
    rwa [decide_eq_true (by omega : ba < 34359738368)] at this)
  have hw : IntKind.u64.wrap (ba + (ds.length : Int)) = ba + (ds.length : Int) := IntWalk.u64_in _ (by omega)
  have T2 : Hid (∀ W, Calls Tryz.prog 18 #[.int .u64 (ba + (ds.length : Int))] W (RetB W true)) := hide (fun W => by
    have := count7_b (ba + (ds.length : Int)) W
    rwa [decide_eq_true (by omega : ba + (ds.length : Int) < 34359738368)] at this)
  clear h ho
  go_enter Tryz.func67, Tryz.ntmps67
  go_wp2_with (first
    | (go_at_call 18; (with_reducible refine (T1.out _).mono ?_); rintro e w1 ⟨rfl, hb1⟩; haveI : Stp _ w1 := ⟨hb1⟩; clear hb1)
    | (go_at_call 18; (with_reducible refine (T2.out _).mono ?_); rintro e w1 ⟨rfl, hb1⟩; haveI : Stp _ w1 := ⟨hb1⟩; clear hb1))
  go_loopw [3] (fun i wr => ∃ m : Nat, m ≤ ds.length ∧ i = .int .i64 m ∧ Below w.heap.size w wr ∧ BoxAt wr w.heap.size #[.int .u64 ba, .slice A ds.length c] 68) (fun i _ => ds.length - (intOf i).toNat)
  case atStart => exact ⟨0, Nat.zero_le _, rfl, blw, inferInstance⟩
  case round =>
    obtain ⟨m, hm, rfl, hB, hbx⟩ := hrel
    haveI : Blw w wr := ⟨hB⟩
    haveI := hbx
    by_cases hlt : m < ds.length
    · have HR : Hid (Reads wr wr.heap.size 1 A ds.length (bdcs ds)) := hide ((HD.out.r.below hB).more hB.size)
      obtain ⟨b, off, p, rfl, hb, hp, g1⟩ := HR.out.atBd hlt
      have hpl := HO.out p (List.mem_of_getElem? hp)
      haveI : CellAt wr b (off + m) (.slice p.A p.bs.length p.c) := ⟨hb, g1⟩
      have i0 : (0 : Int) ≤ (m : Int) := by omega
      have i1 : (m : Int) < (ds.length : Int) := by omega
      have TB := hide (fun W => body7_b p.A p.bs.length p.c W hpl.1 (by omega))
      clear hp hb g1 hpl hB hbx
      go_wp2_with (go_at_call 68; (with_reducible refine (TB.out _).mono ?_); rintro e w1 ⟨rfl, hb1⟩; haveI : Stp _ w1 := ⟨hb1⟩; clear hb1)
      go_roundw
      case rel => exact ⟨m + 1, by omega, by go_num, blw, inferInstance⟩
      case measure => simp [intOf]; omega
    · obtain rfl : m = ds.length := by omega
      go_wp2_with fail
      go_ret
      exact ⟨rfl, blw⟩
set_option maxRecDepth 100000 in
set_option maxHeartbeats 4000000 in
theorem due7_s (ba : Int) (A : Option Addr) (c : Nat) (ds : List Bd) (w : World) (h : BdsR w A ds) (hl : ds.length ≤ 48) (hb0 : 0 ≤ ba) (hb : ba + ds.length ≤ 34359738367) (ho : ∀ d ∈ ds, 1 ≤ d.bs.length ∧ d.bs.length ≤ 320) :
    Calls Tryz.prog 46 #[sndV ba A ds.length c] w (RetZ w (min ds.length 8 : Nat)) := by
  have TM := hide (fun W (h : BdsR W A ds) => may7_s ba A c ds W h hl hb0 hb ho)
  have HD := hide h
  have hmin : min (ds.length : Int) 8 = ((min ds.length 8 : Nat) : Int) := by omega
  clear h ho
  go_enter Tryz.func46, Tryz.ntmps46
  go_wp2_with (go_at_call 67; (with_reducible refine (TM.out _ (HD.out.step blw)).mono ?_); rintro e w1 ⟨rfl, hb1⟩; haveI : Stp _ w1 := ⟨hb1⟩; clear hb1)
  go_ret
  exact ⟨ret_i (by first | rfl | omega), blw⟩
theorem own_emB7 (W : World) (base m : Nat) (hb : base ≤ m) [h : BoxAt W m #[] 5] : W.ownsRow base 5 1 (.slice (some ⟨m, 0, none⟩) 0 0) 0 [] :=
  ⟨rfl, .inr ⟨m, 0, #[], rfl, hb, h.eq, Nat.le_refl _, by unfold maxLen; omega, rfl, rfl⟩⟩
theorem BdP.re7 {base : Nat} {W : World} {E D : List Nat} {p : Bd} (h : BdP base W E p) (hd : ∀ i ∈ D, i ∈ E ∨ i < base ∨ W.heap.size ≤ i) : BdP base W D p := ⟨⟨h.r.1, fun h0 a ha hm => by
  rcases hd _ hm with h1 | h1 | h1
  · exact h.r.2 h0 a ha h1
  · have := h.n a ha; omega
  · obtain ⟨b, off, e, hb, _⟩ := h.r.1.2 h0
    rw [e] at ha
    injection ha with ha
    subst ha
    simp only at h1
    omega⟩, h.n, h.f⟩
theorem BdG.gr {base : Nat} {X W : World} {v : Value} {ds : List Bd} {C : List Nat} (h : BdG base X v ds) (hg : Gr C X W) (hC : ∀ i ∈ C, i < base) : BdG base W v ds :=
  ⟨own_same h.row (fun i hi => hg.blk i (h.row.lt i hi).2 (fun hm => by have := hC i hm; have := (h.row.lt i hi).1; omega)), fun p hp => by
    have h1 := ((h.el p hp).re7 (D := C ++ ownL v) (fun i hi => by
      rcases List.mem_append.1 hi with h2 | h2
      · exact .inr (.inl (hC i h2))
      · exact .inl h2)).tr (.of (hg.mono' (fun i hi => List.mem_append_left _ hi)))
    exact h1.re7 (fun i hi => .inl (List.mem_append_right _ hi))⟩
def RetOwn7 (w : World) (ba : Int) (ds : List Bd) (e : Ending) (w' : World) : Prop := ∃ A' c' ds', e = .returned (sndV ba A' ds.length c') ∧ ds'.map Bd.bs = ds.map Bd.bs ∧ BdG w.heap.size w' (.slice A' ds.length c') ds' ∧ Below w.heap.size w w'
set_option maxRecDepth 100000 in
set_option maxHeartbeats 8000000 in
theorem own7_s (ba : Int) (A : Option Addr) (c : Nat) (ds : List Bd) (w : World) (h : BdsR w A ds) (hl : ds.length ≤ 48) (ho : ∀ d ∈ ds, 1 ≤ d.bs.length ∧ d.bs.length ≤ 320) :
    Calls Tryz.prog 69 #[sndV ba A ds.length c] w (RetOwn7 w ba ds) := by
  have HD := hide h
  have HL := hide ho
  clear h ho
  go_enter Tryz.func69, Tryz.ntmps69
  go_wp2_with fail
  go_loopw [4] (fun i wr => ∃ (m : Nat) (v : Value) (ds' : List Bd), m ≤ ds.length ∧ i = .int .i64 m ∧ BdG (w.heap.size + 1 + 1 + 1) wr v ds' ∧ ds'.map Bd.bs = (ds.take m).map Bd.bs ∧ Below w.heap.size w wr ∧ BoxAt wr w.heap.size #[.int .u64 ba, .slice A ds.length c] 68 ∧ BoxAt wr (w.heap.size + 1) #[.int .u64 0, .slice none 0 0] 68 ∧ BoxAt wr (w.heap.size + 1 + 1) #[.int .u64 ba, v] 68) (fun i _ => ds.length - (intOf i).toNat)
  case atStart => exact ⟨0, _, [], Nat.zero_le _, rfl, BdG.nil _ _, rfl, blw, inferInstance, inferInstance, inferInstance⟩
  case round =>
    obtain ⟨m, v, ds', hm, rfl, ho, he, hB, h0, h1, h2⟩ := hrel
    obtain ⟨A5, c5, rfl, _, _⟩ := own_slice ho.row
    haveI : Blw w wr := ⟨hB⟩
    haveI := h0
    haveI := h1
    haveI := h2
    have hz2 := h2.lt
    haveI : LtN w.heap.size wr.heap.size := ⟨by omega⟩
    haveI : LeN w.heap.size wr.heap.size := ⟨by omega⟩
    haveI : LtN (w.heap.size + 1) wr.heap.size := ⟨by omega⟩
    haveI : LtN (w.heap.size + 1 + 1) wr.heap.size := ⟨hz2⟩
    have HO := hide ho
    have HE := hide he
    have HB := hide hB
    have zr := hB.size
    have hdl : ds'.length = m := by have := congrArg List.length he; simp at this; omega
    clear ho hB he h0 h1 h2
    by_cases hlt : m < ds.length
    · obtain ⟨b, off, p, rfl, hb, hp, g1⟩ := HD.out.r.atBd hlt
      have HCB : Hid (∀ W, Below w.heap.size w W → CellAt W b (off + m) (.slice p.A p.bs.length p.c)) := hide (fun W hW => ⟨Nat.lt_of_lt_of_le hb hW.size, (hW.cell (p := ⟨b, off + m, none⟩) hb).trans g1⟩)
      haveI := HCB.out wr HB.out
      have hpm := List.mem_of_getElem? hp
      haveI : Src w p.A p.bs.length 1 (bcs p.bs) := ⟨HD.out.b p hpm⟩
      have hpl := HL.out p hpm
      have HTK := hide (show (ds.take (m + 1)).map Bd.bs = (ds.take m).map Bd.bs ++ [p.bs] by rw [take_succ_of hp]; simp)
      have i0 : (0 : Int) ≤ (m : Int) := by omega
      have i1 : (m : Int) < (ds.length : Int) := by omega
      have hdl2 : ds'.length ≤ 1000 := by omega
      clear hp g1 hpm hdl
      go_upto_region 5 with fail
      go_region_law
        (first
          | (refine step_append_w Tryz.okB rfl (.tmp 17) (.tmp 22) rfl wr.heap.size (.slice (some ⟨wr.heap.size, 0, none⟩) 0 0) 0 [] p.bs.length (bcs p.bs) ?_ ?_ ?_ ?_ ?_ ?_ ?_ ?_; ((focus (first | rfl | (simp [Act.eval, Act.put]; done))); (focus (exact own_emB7 _ _ _ (Nat.le_refl _))); (focus (refine ⟨_, _, by first | rfl | (simp [Act.eval, Act.put]; done), ?_⟩; exact src)); (focus (exact bcs_one _)); (focus (unfold maxLen; omega)); (focus omega); (focus (first | omega | (simp; done) | (simp; omega) | exact blw.size | exact BoxAt.lt (n := w.heap.size) inferInstance)); intro v6 w6 ho6 hg6; rw [Nat.zero_add, List.nil_append] at ho6; haveI : StpB wr.heap.size _ w6 := ⟨grown_belowT hg6 (by simp) (fun k hk => by have e : wr.heap.size = k := Option.some.inj hk; omega)⟩; obtain ⟨A6, c6, rfl, _, _⟩ := own_slice ho6; have z6 : wr.heap.size ≤ w6.heap.size := (by have := hg6.size; (try simp at this); omega); have O6 := hide ho6; clear ho6 hg6))
          | (refine step_append_x Tryz.okBd rfl (.tmp 16) (.tmp 24) rfl (w.heap.size + 1 + 1 + 1) (.slice A5 ds'.length c5) ds'.length (bdcs ds') 1 (bdcs [⟨A6, c6, p.bs⟩]) ?_ ?_ ?_ ?_ ?_ ?_ ?_ ?_; go_must ((focus (first | rfl | (simp [Act.eval, Act.put]; done))); (focus (exact own_tc HO.out.row)); (focus (refine ⟨_, _, by first | rfl | (simp [Act.eval, Act.put]; done), ?_⟩; exact reads_bd1x _ _ ⟨A6, c6, p.bs⟩)); (focus (exact bdcs_one _)); (focus (unfold maxLen; omega)); (focus omega); (focus (first | omega | (simp; done) | (simp; omega) | exact blw.size | exact BoxAt.lt (n := w.heap.size) inferInstance)); intro v7 w7 ho7 hg7 ha7; haveI : StpB (w.heap.size + 1 + 1 + 1) _ w7 := ⟨grown_belowT hg7 (by (try simp); omega) (fun q hq => (HO.out.row.lt q hq).1)⟩; have O7 := hide (BdG.app (d := ⟨A6, c6, p.bs⟩) (HO.out.step blw) ho7 hg7 ha7 ((BdP.own O6.out (fun i hi => (HO.out.row.lt i (mem_ownL.1 hi)).2) (w.heap.size + 1 + 1 + 1) (by omega)).tr (.bel blw))); obtain ⟨A7, c7, rfl, _, _⟩ := own_slice ho7; clear ho7 hg7 ha7))
          | fail)
      all_goals
        go_wp2_with fail
        go_roundw
        case rel => exact ⟨m + 1, _, _, by omega, by go_num, O7.out.gr (C := [w.heap.size + 1 + 1]) (Gr.set _ _ _ (by simp)) (by simp), by rw [HTK.out, List.map_append, HE.out]; rfl, blw, inferInstance, inferInstance, inferInstance⟩
        case measure => simp [intOf]; omega
    · obtain rfl : m = ds.length := by omega
      go_wp2_with fail
      refine bodyPost_ret (v := sndV ba A5 ds'.length c5) (by simp [results, Tryz.results69, go_sem]; omega) rfl ?_
      have he := HE.out
      rw [List.take_length] at he
      rw [hdl]
      exact ⟨A5, c5, ds', rfl, he, by have := (HO.out.gr (C := [w.heap.size + 1]) ((Gr.set (m := w.heap.size + 1) wr 0 (.int .u64 ba) (by simp)).trans (Gr.set (m := w.heap.size + 1) _ 1 (.slice A5 ds'.length c5) (by simp))) (by simp)).lo (lo := w.heap.size) (by omega); rwa [hdl] at this, blw⟩
/-- a sender with one body more -/
def RetPush7 (w : World) (ba : Int) (L : List (List Int)) (e : Ending) (w' : World) : Prop := ∃ A' c' ds', e = .returned (.tuple #[sndV ba A' L.length c', .int .i64 0]) ∧ ds'.map Bd.bs = L ∧ BdsN w' w.heap.size A' ds' ∧ Below w.heap.size w w' ∧ L.length ≤ c'
set_option maxRecDepth 100000 in
set_option maxHeartbeats 8000000 in
theorem push7_s (ba : Int) (A : Option Addr) (c : Nat) (ds : List Bd) (BA : Option Addr) (bs : List Int) (bc : Nat) (w : World) (h : BdsR w A ds) (hl : ds.length < 48) (hb0 : 0 ≤ ba) (hb : ba + ds.length < 34359738367) (ho : ∀ d ∈ ds, 1 ≤ d.bs.length ∧ d.bs.length ≤ 320) (hB : Reads w w.heap.size 1 BA bs.length (bcs bs)) (h1 : 1 ≤ bs.length) (h2 : bs.length ≤ 320) :
    Calls Tryz.prog 45 #[sndV ba A ds.length c, .slice BA bs.length bc] w (RetPush7 w ba (ds.map Bd.bs ++ [bs])) := by
  haveI : Src w BA bs.length 1 (bcs bs) := ⟨hB⟩
  have TM := hide (fun W (h : BdsR W A ds) => may7_s ba A c ds W h (by omega) hb0 (by omega) ho)
  have TO := hide (fun W (h : BdsR W A ds) => own7_s ba A c ds W h (by omega) ho)
  have TB := hide (fun W => body7_b BA bs.length bc W h1 (by omega))
  have e1 : decide ((48 : Int) ≤ (ds.length : Int)) = false := decide_eq_false (by omega)
  have e1n : decide (48 ≤ ds.length) = false := decide_eq_false (by omega)
  have hw1 : IntKind.u64.wrap (ba + (ds.length : Int)) = ba + (ds.length : Int) := IntWalk.u64_in _ (by omega)
  have hw2 : IntKind.u64.wrap (ba + (ds.length : Int) + 1) = ba + (ds.length : Int) + 1 := IntWalk.u64_in _ (by omega)
  have TC : Hid (∀ W, Calls Tryz.prog 18 #[.int .u64 (ba + (ds.length : Int) + 1)] W (RetB W true)) := hide (fun W => by
    have := count7_b (ba + (ds.length : Int) + 1) W
    rwa [decide_eq_true (by omega : ba + (ds.length : Int) + 1 < 34359738368)] at this)
  have HD := hide h
  clear h ho hB
  go_enter Tryz.func45, Tryz.ntmps45
  go_upto_region 8 with (first
    | (go_at_call 67; (with_reducible refine (TM.out _ (HD.out.step blw)).mono ?_); rintro e w1 ⟨rfl, hb1⟩; haveI : Stp _ w1 := ⟨hb1⟩; clear hb1)
    | (go_at_call 68; (with_reducible refine (TB.out _).mono ?_); rintro e w1 ⟨rfl, hb1⟩; haveI : Stp _ w1 := ⟨hb1⟩; clear hb1)
    | (go_at_call 18; (with_reducible refine (TC.out _).mono ?_); rintro e w1 ⟨rfl, hb1⟩; haveI : Stp _ w1 := ⟨hb1⟩; clear hb1)
    | (go_at_call 69; (with_reducible refine (TO.out _ (HD.out.step blw)).mono ?_); rintro e w2 ⟨A2, c2, ds2, rfl, hm2, hg2, hb2⟩; haveI : Stp _ w2 := ⟨hb2⟩; have z2 : w.heap.size + 1 < w2.heap.size := BoxAt.lt (w := w2) (n := w.heap.size + 1) inferInstance; have hl2 : ds2.length = ds.length := (by have := congrArg List.length hm2; simpa using this); have HM := hide hm2; have HG := hide (hg2.lo (lo := w.heap.size + 1 + 1) (BoxAt.lt (n := w.heap.size + 1) inferInstance)); clear hm2 hg2 hb2))
  obtain ⟨w8, hw8⟩ : ∃ w8, w8 = ((w2.setCell ⟨w.heap.size, 0, none⟩ (.int .u64 ba)).setCell ⟨w.heap.size, 1, none⟩ (.slice A2 ds.length c2)) := ⟨_, rfl⟩
  have b2 : BoxAt w8 w.heap.size #[.int .u64 ba, .slice A2 ds.length c2] 68 := by rw [hw8]; exact inferInstance
  have b4 : BoxAt w8 (w.heap.size + 1) #[.int .u64 0, .slice none 0 0] 68 := by rw [hw8]; exact inferInstance
  have HB8 : Below w.heap.size w w8 := by rw [hw8]; exact blw
  have HG8 := hide (show BdG (w.heap.size + 1 + 1) w8 (.slice A2 ds.length c2) ds2 by rw [hw8]; exact HG.out.gr (C := [w.heap.size]) ((Gr.set (m := w.heap.size) _ 0 _ (by simp)).trans (Gr.set (m := w.heap.size) _ 1 _ (by simp))) (by simp; omega))
  rw [← hw8]
  clear hw8
  haveI : Blw w w8 := ⟨HB8⟩
  haveI := b2
  haveI := b4
  have z8 : w.heap.size + 1 < w8.heap.size := b4.lt
  haveI : LtN w.heap.size w8.heap.size := ⟨by omega⟩
  haveI : LtN (w.heap.size + 1) w8.heap.size := ⟨z8⟩
  haveI : LeN w.heap.size w8.heap.size := ⟨by omega⟩
  have HGR : Hid (w8.ownsRow (w.heap.size + 1 + 1) 37 1 (.slice A2 ds.length c2) ds.length (bdcs ds2)) := hide (by have := HG8.out.row; rwa [hl2] at this)
  go_region_law
    (first
      | (refine step_append_w Tryz.okB rfl (.tmp 35) (.tmp 36) rfl w8.heap.size (.slice (some ⟨w8.heap.size, 0, none⟩) 0 0) 0 [] bs.length (bcs bs) ?_ ?_ ?_ ?_ ?_ ?_ ?_ ?_; ((focus (first | rfl | (simp [Act.eval, Act.put]; done))); (focus (exact own_emB7 _ _ _ (Nat.le_refl _))); (focus (refine ⟨_, _, by first | rfl | (simp [Act.eval, Act.put]; done), ?_⟩; exact src)); (focus (exact bcs_one _)); (focus (unfold maxLen; omega)); (focus omega); (focus (first | omega | (simp; done) | (simp; omega) | exact blw.size | exact BoxAt.lt (n := w.heap.size) inferInstance)); intro v6 w6 ho6 hg6; rw [Nat.zero_add, List.nil_append] at ho6; haveI : StpB w8.heap.size _ w6 := ⟨grown_belowT hg6 (by simp) (fun k hk => by have e : w8.heap.size = k := Option.some.inj hk; omega)⟩; obtain ⟨A6, c6, rfl, _, _⟩ := own_slice ho6; have z6 : w8.heap.size ≤ w6.heap.size := (by have := hg6.size; (try simp at this); omega); have O6 := hide ho6; clear ho6 hg6))
      | (refine step_append_x Tryz.okBd rfl (.tmp 34) (.tmp 38) rfl (w.heap.size + 1 + 1) (.slice A2 ds.length c2) ds.length (bdcs ds2) 1 (bdcs [⟨A6, c6, bs⟩]) ?_ ?_ ?_ ?_ ?_ ?_ ?_ ?_; go_must ((focus (first | rfl | (simp [Act.eval, Act.put]; done))); (focus (exact own_tc HGR.out)); (focus (refine ⟨_, _, by first | rfl | (simp [Act.eval, Act.put]; done), ?_⟩; exact reads_bd1x _ _ ⟨A6, c6, bs⟩)); (focus (exact bdcs_one _)); (focus (unfold maxLen; omega)); (focus omega); (focus (first | omega | (simp; done) | (simp; omega) | exact blw.size | exact BoxAt.lt (n := w.heap.size) inferInstance)); intro v7 w7 ho7 hg7 ha7; haveI : StpB (w.heap.size + 1 + 1) _ w7 := ⟨grown_belowT hg7 (by (try simp); omega) (fun q hq => (HG8.out.row.lt q hq).1)⟩; obtain ⟨A7, c7, rfl, hc7, _⟩ := own_slice ho7; have O7 := hide (BdG.app (d := ⟨A6, c6, bs⟩) (HG8.out.step blw) (by rw [hl2]; exact ho7) hg7 ha7 ((BdP.own O6.out (fun i hi => (HG8.out.row.lt i (mem_ownL.1 hi)).2) (w.heap.size + 1 + 1) (by omega)).tr (.bel blw))); clear ho7 hg7 ha7))
      | fail)
  all_goals
    go_wp2_with fail
    refine bodyPost_ret (v := .tuple #[sndV ba A7 (ds.length + 1) c7, .int .i64 0]) (by simp [results, Tryz.results45, go_sem]) rfl ?_
    refine ⟨A7, c7, ds2 ++ [⟨A6, c6, bs⟩], by rw [List.length_append, List.length_map]; rfl, by rw [List.map_append, HM.out]; rfl, ?_, blw, by rw [List.length_append, List.length_map]; exact hc7⟩
    have hl7 : (ds2 ++ [(⟨A6, c6, bs⟩ : Bd)]).length = ds.length + 1 := by rw [List.length_append, hl2]; rfl
    have HN : Hid (BdsN w7 (w.heap.size + 1 + 1) A7 (ds2 ++ [⟨A6, c6, bs⟩])) := hide (BdG.new (c := c7) (by rw [hl7]; exact O7.out))
    exact (BdsN.gr HN.out (Trc.h (C := [w.heap.size, w.heap.size + 1]) (a := w7)).g (by intro i hi; simp at hi; omega)).lo (by omega)

set_option maxRecDepth 100000 in
set_option maxHeartbeats 8000000 in
theorem acked7_n (ba : Int) (A : Option Addr) (c : Nat) (ds : List Bd) (w : World) (h : BdsR w A ds) (hl : ds.length ≤ 48) (hb0 : 0 ≤ ba) (hb : ba + ds.length ≤ 34359738367) (ho : ∀ d ∈ ds, 1 ≤ d.bs.length ∧ d.bs.length ≤ 320) (upto : Int) (hno0 : ∀ j : Nat, 1 ≤ j → j ≤ min ds.length 8 → ba + (j : Int) ≠ upto) :
    Calls Tryz.prog 74 #[sndV ba A ds.length c, .int .u64 upto] w (fun e w' => ∃ A' c' ds', e = .returned (.tuple #[sndV ba A' ds.length c', .bool false]) ∧ ds'.map Bd.bs = ds.map Bd.bs ∧ BdsN w' w.heap.size A' ds' ∧ Below w.heap.size w w' ∧ ds.length ≤ c') := by
  have TO := hide (fun W (h : BdsR W A ds) => own7_s ba A c ds W h (by omega) ho)
  have HD := hide h
  obtain ⟨q, hq⟩ : ∃ q, q = min ds.length 8 := ⟨_, rfl⟩
  have HQ := hide hq
  have hq8 : q ≤ 8 := by omega
  have HO := hide ho
  clear h ho
  go_enter Tryz.func74, Tryz.ntmps74
  go_wp2_with (go_at_call 69; (with_reducible refine (TO.out _ (HD.out.step blw)).mono ?_); rintro e w2 ⟨A2, c2, ds2, rfl, hm2, hg2, hb2⟩; haveI : Stp _ w2 := ⟨hb2⟩; have z2 : w.heap.size + 1 < w2.heap.size := BoxAt.lt (w := w2) (n := w.heap.size + 1) inferInstance; have hl2 : ds2.length = ds.length := (by have := congrArg List.length hm2; simpa using this); have HM := hide hm2; have HG := hide (hg2.lo (lo := w.heap.size + 1 + 1) (BoxAt.lt (n := w.heap.size + 1) inferInstance)); clear hm2 hg2 hb2)
  go_loopw [6] (fun i wr => ∃ j : Nat, 1 ≤ j ∧ j ≤ q + 1 ∧ i = .int .i64 j ∧ (∀ j' : Nat, 1 ≤ j' → j' < j → ba + (j' : Int) ≠ upto) ∧ BdG (w.heap.size + 1 + 1) wr (.slice A2 ds.length c2) ds2 ∧ Below w.heap.size w wr ∧ BoxAt wr w.heap.size #[.int .u64 ba, .slice A2 ds.length c2] 68 ∧ BoxAt wr (w.heap.size + 1) #[.int .u64 0, .slice none 0 0] 68) (fun i _ => 20 - (intOf i).toNat)
  case atStart => exact ⟨1, Nat.le_refl _, by omega, rfl, fun j' h1 h2 => by omega, HG.out.gr (C := [w.heap.size]) ((Gr.set (m := w.heap.size) _ 0 _ (by simp)).trans (Gr.set (m := w.heap.size) _ 1 _ (by simp))) (by simp; omega), blw, inferInstance, inferInstance⟩
  case round =>
    obtain ⟨j, hj1, hj2, rfl, hno, hgr, hB, hb2, hb4⟩ := hrel
    haveI : Blw w wr := ⟨hB⟩
    haveI := hb2
    haveI := hb4
    have HG2 := hide hgr
    have HNO := hide hno
    have HR2 : Hid (BdsR wr A2 ds2) := hide (BdG.new (c := c2) (by rw [hl2]; exact hgr)).o
    have hoo : ∀ d ∈ ds2, 1 ≤ d.bs.length ∧ d.bs.length ≤ 320 := fun d hd => by
      have h1 : d.bs ∈ ds.map Bd.bs := by rw [← HM.out]; exact List.mem_map_of_mem hd
      obtain ⟨d', h2, h3⟩ := List.mem_map.1 h1
      rw [← h3]
      exact HO.out d' h2
    have TD : Hid (∀ W, Below wr.heap.size wr W → Calls Tryz.prog 46 #[sndV ba A2 ds.length c2] W (RetZ W q)) := hide (fun W hW => by
      have := due7_s ba A2 c2 ds2 W (HR2.out.step hW) (by omega) hb0 (by omega) hoo
      rw [hl2, ← HQ.out] at this
      exact this)
    have HZ := hide (show w.heap.size + 1 < wr.heap.size from hb4.lt)
    clear hgr hno hB hb2 hb4 hoo
    by_cases hlt : j ≤ q
    · have e1 : decide ((j : Int) ≤ (q : Int)) = true := decide_eq_true (by omega)
      have e1n : decide (j ≤ q) = true := decide_eq_true hlt
      have hwj : IntKind.u64.wrap (j : Int) = (j : Int) := IntWalk.u64_in _ (by omega)
      have hw2 : IntKind.u64.wrap (ba + (j : Int)) = ba + (j : Int) := IntWalk.u64_in _ (by omega)
      by_cases hu : ba + (j : Int) = upto
      · exact absurd hu (hno0 j (by omega) (by omega))
      · have e2 : (ba + (j : Int) == upto) = false := beq_eq_false_iff_ne.2 hu
        have HU := hide hu
        clear hu
        go_wp2_with (go_at_call 46; (with_reducible refine (TD.out _ blw).mono ?_); rintro e w3 ⟨rfl, hb3⟩; haveI : Stp _ w3 := ⟨hb3⟩; clear hb3)
        go_roundw
        case rel => exact ⟨j + 1, by omega, by omega, by go_num, fun j' h1 h2 => by
          by_cases h3 : j' = j
          · subst h3; exact HU.out
          · exact HNO.out j' h1 (by omega), HG2.out.step blw, blw, inferInstance, inferInstance⟩
        case measure => simp [intOf]; omega
    · have e1 : decide ((j : Int) ≤ (q : Int)) = false := decide_eq_false (by omega)
      have e1n : decide (j ≤ q) = false := decide_eq_false hlt
      go_wp2_with (go_at_call 46; (with_reducible refine (TD.out _ blw).mono ?_); rintro e w3 ⟨rfl, hb3⟩; haveI : Stp _ w3 := ⟨hb3⟩; clear hb3)
      refine bodyPost_ret (v := .tuple #[sndV ba A2 ds.length c2, .bool false]) (by simp [results, Tryz.results74, go_sem]) rfl ?_
      have HN : Hid (BdsN wr (w.heap.size + 1 + 1) A2 ds2) := hide (BdG.new (c := c2) (by rw [hl2]; exact HG2.out))
      obtain ⟨_, _, hcc, hc2, _⟩ := own_slice HG2.out.row
      injection hcc with _ _ hcc
      refine ⟨A2, c2, ds2, rfl, HM.out, (BdsN.gr HN.out (Trc.h (C := [w.heap.size + 1]) (a := wr)).g (by intro i hi; simp at hi; omega)).lo (by omega), blw, by rw [hcc]; omega⟩
end Go.Proofs.YtniogmefbjfoaaaGreat

namespace Go.Proofs.YtniogmefbjfoaaaGreat
set_option linter.unusedSimpArgs false
set_option linter.unusedVariables false
set_option linter.unusedSectionVars false
open Go.RowKit Go.Maps

theorem BdsN.none {W : World} {B : Nat} {A : Option Addr} {ds : List Bd} (h : BdsN W B A ds) : BdsN W B A [] := ⟨⟨⟨by simp [bdcs], fun h0 => absurd h0 (by simp)⟩, fun d hd => by cases hd⟩, h.n, fun d hd => by cases hd⟩
theorem BdsN.drop {W : World} {B b off k : Nat} {ds : List Bd} (h : BdsN W B (some ⟨b, off, Option.none⟩) ds) (hk : k ≤ ds.length) : BdsN W B (some ⟨b, off + k, Option.none⟩) (ds.drop k) :=
  ⟨h.o.drop hk, fun a ha => by
    injection ha with ha
    subst ha
    exact h.n ⟨b, off, Option.none⟩ rfl, fun d hd => h.m d (List.mem_of_mem_drop hd)⟩

def RetAck7 (w : World) (u : Int) (n : Nat) (L : List (List Int)) (e : Ending) (w' : World) : Prop := ∃ A' c' ds', e = .returned (.tuple #[sndV u A' n c', .bool true]) ∧ ds'.map Bd.bs = L ∧ BdsN w' w.heap.size A' ds' ∧ Below w.heap.size w w' ∧ n ≤ c'
set_option maxRecDepth 100000 in
set_option maxHeartbeats 8000000 in
theorem acked7_y (ba : Int) (A : Option Addr) (c : Nat) (ds : List Bd) (w : World) (h : BdsR w A ds) (hl : ds.length ≤ 48) (hb0 : 0 ≤ ba) (hb : ba + ds.length ≤ 34359738367) (ho : ∀ d ∈ ds, 1 ≤ d.bs.length ∧ d.bs.length ≤ 320) (k : Nat) (k1 : 1 ≤ k) (k2 : k ≤ min ds.length 8) :
    Calls Tryz.prog 74 #[sndV ba A ds.length c, .int .u64 (ba + (k : Int))] w (RetAck7 w (ba + (k : Int)) (ds.length - k) ((ds.map Bd.bs).drop k)) := by
  have TO := hide (fun W (h : BdsR W A ds) => own7_s ba A c ds W h (by omega) ho)
  have HD := hide h
  obtain ⟨q, hq⟩ : ∃ q, q = min ds.length 8 := ⟨_, rfl⟩
  have HQ := hide hq
  have hq8 : q ≤ 8 := by omega
  have HO := hide ho
  clear h ho
  go_enter Tryz.func74, Tryz.ntmps74
  go_wp2_with (go_at_call 69; (with_reducible refine (TO.out _ (HD.out.step blw)).mono ?_); rintro e w2 ⟨A2, c2, ds2, rfl, hm2, hg2, hb2⟩; haveI : Stp _ w2 := ⟨hb2⟩; have z2 : w.heap.size + 1 < w2.heap.size := BoxAt.lt (w := w2) (n := w.heap.size + 1) inferInstance; have hl2 : ds2.length = ds.length := (by have := congrArg List.length hm2; simpa using this); have HM := hide hm2; have HG := hide (hg2.lo (lo := w.heap.size + 1 + 1) (BoxAt.lt (n := w.heap.size + 1) inferInstance)); clear hm2 hg2 hb2)
  go_loopw [6] (fun i wr => ∃ j : Nat, 1 ≤ j ∧ j ≤ q + 1 ∧ i = .int .i64 j ∧ (∀ j' : Nat, 1 ≤ j' → j' < j → ba + (j' : Int) ≠ ba + (k : Int)) ∧ BdG (w.heap.size + 1 + 1) wr (.slice A2 ds.length c2) ds2 ∧ Below w.heap.size w wr ∧ BoxAt wr w.heap.size #[.int .u64 ba, .slice A2 ds.length c2] 68 ∧ BoxAt wr (w.heap.size + 1) #[.int .u64 0, .slice none 0 0] 68) (fun i _ => 20 - (intOf i).toNat)
  case atStart => exact ⟨1, Nat.le_refl _, by omega, rfl, fun j' h1 h2 => by omega, HG.out.gr (C := [w.heap.size]) ((Gr.set (m := w.heap.size) _ 0 _ (by simp)).trans (Gr.set (m := w.heap.size) _ 1 _ (by simp))) (by simp; omega), blw, inferInstance, inferInstance⟩
  case round =>
    obtain ⟨j, hj1, hj2, rfl, hno, hgr, hB, hb2, hb4⟩ := hrel
    haveI : Blw w wr := ⟨hB⟩
    haveI := hb2
    haveI := hb4
    have HG2 := hide hgr
    have HNO := hide hno
    have HR2 : Hid (BdsR wr A2 ds2) := hide (BdG.new (c := c2) (by rw [hl2]; exact hgr)).o
    have hoo : ∀ d ∈ ds2, 1 ≤ d.bs.length ∧ d.bs.length ≤ 320 := fun d hd => by
      have h1 : d.bs ∈ ds.map Bd.bs := by rw [← HM.out]; exact List.mem_map_of_mem hd
      obtain ⟨d', h2, h3⟩ := List.mem_map.1 h1
      rw [← h3]
      exact HO.out d' h2
    have TD : Hid (∀ W, Below wr.heap.size wr W → Calls Tryz.prog 46 #[sndV ba A2 ds.length c2] W (RetZ W q)) := hide (fun W hW => by
      have := due7_s ba A2 c2 ds2 W (HR2.out.step hW) (by omega) hb0 (by omega) hoo
      rw [hl2, ← HQ.out] at this
      exact this)
    have HZ := hide (show w.heap.size + 1 < wr.heap.size from hb4.lt)
    clear hgr hno hB hb2 hb4 hoo
    by_cases hlt : j ≤ q
    · have e1 : decide ((j : Int) ≤ (q : Int)) = true := decide_eq_true (by omega)
      have e1n : decide (j ≤ q) = true := decide_eq_true hlt
      have hwj : IntKind.u64.wrap (j : Int) = (j : Int) := IntWalk.u64_in _ (by omega)
      have hw2 : IntKind.u64.wrap (ba + (j : Int)) = ba + (j : Int) := IntWalk.u64_in _ (by omega)
      by_cases hu : ba + (j : Int) = ba + (k : Int)
      · have hjk : j = k := by omega
        have e2 : (ba + (j : Int) == ba + (k : Int)) = true := by simpa using hu
        have HJK := hide hjk
        clear hjk
        have hcl : ds.length ≤ c2 := by
          obtain ⟨_, _, hcc, hc2, _⟩ := own_slice HG2.out.row
          injection hcc with _ _ hcc
          rw [hcc]; omega
        have HN : Hid (BdsN wr (w.heap.size + 1 + 1) A2 ds2) := hide (BdG.new (c := c2) (by rw [hl2]; exact HG2.out))
        obtain ⟨b, off, rfl, -, -⟩ := HR2.out.r.2 (by omega)
        have i0 : (0 : Int) ≤ (j : Int) := by omega
        have i1 : (j : Int) ≤ (ds.length : Int) := by omega
        have m0 : j ≤ c2 := by omega
        have K2 := hide k2
        clear hu k2 hj2
        go_upto_region 6 with (go_at_call 46; (with_reducible refine (TD.out _ blw).mono ?_); rintro e w3 ⟨rfl, hb3⟩; haveI : Stp _ w3 := ⟨hb3⟩; clear hb3)
        clear hwj hw2 e1 e1n
        go_wp2_with fail
        case inl =>
          have hjk := HJK.out
          refine bodyPost_ret (v := .tuple #[sndV (ba + k) (some ⟨b, off, none⟩) (ds.length - j) 0, .bool true]) (by simp [results, Tryz.results74, go_sem]) rfl ?_
          refine ⟨some ⟨b, off, none⟩, 0, ds2.drop k, by rw [hjk], by rw [List.map_drop, HM.out], ?_, blw, by omega⟩
          rw [List.drop_eq_nil_of_le (by omega)]
          exact (BdsN.gr (BdsN.none HN.out) (Trc.h (C := [w.heap.size + 1]) (a := wr)).g (by intro i hi; simp at hi; omega)).lo (by omega)
        case inr =>
          have hjk := HJK.out
          refine bodyPost_ret (v := .tuple #[sndV (ba + k) (some ⟨b, off + j, none⟩) (ds.length - j) (c2 - j), .bool true]) (by simp [results, Tryz.results74, go_sem]) rfl ?_
          refine ⟨some ⟨b, off + j, none⟩, c2 - j, ds2.drop k, by rw [hjk], by rw [List.map_drop, HM.out], ?_, blw, by omega⟩
          rw [← hjk]
          exact (BdsN.gr (BdsN.drop HN.out (by omega)) (Trc.h (C := [w.heap.size + 1]) (a := wr)).g (by intro i hi; simp at hi; omega)).lo (by omega)
      · have e2 : (ba + (j : Int) == ba + (k : Int)) = false := beq_eq_false_iff_ne.2 hu
        have HU := hide hu
        clear hu
        go_wp2_with (go_at_call 46; (with_reducible refine (TD.out _ blw).mono ?_); rintro e w3 ⟨rfl, hb3⟩; haveI : Stp _ w3 := ⟨hb3⟩; clear hb3)
        go_roundw
        case rel => exact ⟨j + 1, by omega, by omega, by go_num, fun j' h1 h2 => by
          by_cases h3 : j' = j
          · subst h3; exact HU.out
          · exact HNO.out j' h1 (by omega), HG2.out.step blw, blw, inferInstance, inferInstance⟩
        case measure => simp [intOf]; omega
    · have e1 : decide ((j : Int) ≤ (q : Int)) = false := decide_eq_false (by omega)
      have e1n : decide (j ≤ q) = false := decide_eq_false hlt
      exact absurd rfl (HNO.out k k1 (by omega))
end Go.Proofs.YtniogmefbjfoaaaGreat

namespace Go.Proofs.YtniogmefbjfoaaaGreat
set_option linter.unusedSimpArgs false
set_option linter.unusedVariables false
set_option linter.unusedSectionVars false
open Go.RowKit Go.Maps

instance (priority := high) CellAt.setAt (W : World) (b i : Nat) (u old : Value) [k : CellAt W b i old] : CellAt (W.setCell ⟨b, i, none⟩ u) b i u := ⟨by simpa [World.setCell] using k.lt, World.cell?_setCell_same _ _ _ k.h⟩
instance CellAt.setOff (W : World) (b i j : Nat) (u v : Value) [k : CellAt W b i v] [e : NeN i j] : CellAt (W.setCell ⟨b, j, none⟩ u) b i v := ⟨by simpa [World.setCell] using k.lt, by
  rw [World.cell?_setCell_other _ _ _ _ (fun h => e.h (by injection h with _ h; exact h.symm))]
  exact k.h⟩
instance (priority := low) CellAt.stpB8 (X W : World) (B b i : Nat) (v : Value) [s : StpB B X W] [k : CellAt X b i v] [l : LtN b B] : CellAt W b i v := ⟨Nat.lt_of_lt_of_le k.lt s.h.size, (s.h.cell (p := ⟨b, i, none⟩) l.h).trans k.h⟩
instance (priority := low) FrzAt.stpB8 (X W : World) (B b : Nat) [s : StpB B X W] [k : FrzAt X b] [l : LtN b B] : FrzAt W b := ⟨Nat.lt_of_lt_of_le k.lt s.h.size, fun i => (s.h.frozen (p := ⟨b, i, none⟩) l.h).trans (k.h i)⟩
/-- only cells of row k of block b are written, of what was there -/
class W9 (b k : Nat) (X W : World) : Prop where
  gr : Gr [b] X W
  o : ∀ o u, o < k * 9 ∨ k * 9 + 9 ≤ o → X.cell? ⟨b, o, none⟩ = some u → W.cell? ⟨b, o, none⟩ = some u
instance (priority := high) W9.rf (b k : Nat) (X : World) : W9 b k X X := ⟨Gr.refl _ _, fun _ _ _ h => h⟩
instance W9.stp (b k : Nat) (X Y W : World) [s : Stp Y W] [h : W9 b k X Y] : W9 b k X W := ⟨h.gr.trans (.of s.h), fun o u ho hx => (s.h.cell (p := ⟨b, o, none⟩) (cell_lt (h.o o u ho hx))).trans (h.o o u ho hx)⟩
theorem W9.setJ {b k j : Nat} {X Y : World} {v : Value} (hj : j < 9) (h : W9 b k X Y) : W9 b k X (Y.setCell ⟨b, k * 9 + j, none⟩ v) := ⟨h.gr.trans (Gr.set _ _ _ (by simp)), fun o u ho hx => by
  rw [World.cell?_setCell_other _ _ _ _ (fun e => by injection e with _ e; omega)]
  exact h.o o u ho hx⟩
instance W9.set0 (b k : Nat) (X Y : World) (v : Value) [h : W9 b k X Y] : W9 b k X (Y.setCell ⟨b, k * 9, none⟩ v) := h.setJ (j := 0) (by omega)
instance W9.set (b k j : Nat) (X Y : World) (v : Value) [h : W9 b k X Y] [l : LtN j 9] : W9 b k X (Y.setCell ⟨b, k * 9 + j, none⟩ v) := h.setJ l.h
instance (priority := low) W9.other (b k m i : Nat) (X Y : World) (v : Value) [h : W9 b k X Y] [l : LeN X.heap.size m] [e : NeN b m] : W9 b k X (Y.setCell ⟨m, i, none⟩ v) :=
  ⟨((h.gr.mono' (D := [b, m]) (by simp)).trans (Gr.set Y (m := m) i v (by simp))).less (fun j hj => by
    simp at hj
    rcases hj with rfl | rfl
    · exact .inl (by simp)
    · exact .inr l.h), fun o u ho hx => by
    rw [World.cell?_setCell_other _ _ _ _ (fun h => e.h (by injection h with h; exact h.symm))]
    exact h.o o u ho hx⟩
theorem W9.trans {b k : Nat} {X Y W : World} (h : W9 b k X Y) (h2 : W9 b k Y W) : W9 b k X W := ⟨h.gr.trans h2.gr, fun o u ho hx => h2.o o u ho (h.o o u ho hx)⟩
/-! ### the document's end -/
def rw0 : Rw := ⟨1, false, 0, [], 0, 0⟩
/-- the document's row of a node: of its own number it is not used -/
def En.rwR (m : En) (k : Nat) : Rw := if m.oth k then m.rw k else rw0
def En.cmR (m : En) (k : Nat) : Cm := (m.cm k).getD ⟨0, 0, 0⟩
/-- the cells of a row -/
structure Rr9 (W : World) (b k : Nat) (r : Rw) (A : Option Addr) (c : Nat) (cm : Cm) : Prop where
  c0 : CellAt W b (k * 9) (.int .u64 r.cn)
  c1 : CellAt W b (k * 9 + 1) (.bool r.rl)
  c2 : CellAt W b (k * 9 + 2) (.int .u64 r.ba)
  c3 : CellAt W b (k * 9 + 3) (.slice A r.bx.length c)
  c4 : CellAt W b (k * 9 + 4) (.int .u64 r.ak)
  c5 : CellAt W b (k * 9 + 5) (.int .u64 r.st)
  c6 : CellAt W b (k * 9 + 6) (.int .u64 cm.i)
  c7 : CellAt W b (k * 9 + 7) (.int .u64 cm.c)
  c8 : CellAt W b (k * 9 + 8) (.int .u64 cm.g)
def RfR (W : World) (E : List Nat) (b k : Nat) (r : Rw) (cm : Cm) : Prop := RwOk r ∧ ∃ A c ds, Rr9 W b k r A c cm ∧ Bds W E A ds ∧ ds.map Bd.bs = r.bx ∧ r.bx.length ≤ c
/-- the document's end in memory: its rows lie in block b; what lies in E somebody writes -/
structure RfM (W : World) (E : List Nat) (x b c : Nat) (m : En) : Prop where
  n1 : 1 ≤ m.n ∧ m.n ≤ 10
  bx : BoxAt W x #[.int .i64 m.n, .int .u64 m.i, .slice (some ⟨b, 0, none⟩) 11 c] 74
  xE : x ∉ E
  bE : b ∈ E
  fz : FrzAt W b
  ltE : ∀ i ∈ E, i < W.heap.size
  ro : ∀ k, k < 11 → RfR W E b k (m.rwR k) (m.cmR k)
  cm : ∀ k c, m.cm k = some c → 1 ≤ c.i
theorem CellAt.tr8 {E E' : List Nat} {X W : World} {b i : Nat} {v : Value} (h : CellAt X b i v) (hb : W.heap[b]? = X.heap[b]?) : CellAt W b i v := ⟨by
  have h1 := h.h
  rw [← World.cell?_of_block (w := X) hb] at h1
  exact cell_lt h1, by rw [World.cell?_of_block (w := X) hb]; exact h.h⟩
theorem RfR.keep {X W : World} {E E' : List Nat} {b k : Nat} {r : Rw} {cm : Cm} (h : RfR X E b k r cm) (t : Tr E E' X W) (ho : ∀ j u, j < 9 → X.cell? ⟨b, k * 9 + j, none⟩ = some u → W.cell? ⟨b, k * 9 + j, none⟩ = some u) : RfR W E' b k r cm := by
  obtain ⟨h0, A, c, ds, h1, h2, h3⟩ := h
  have key : ∀ j v, j < 9 → CellAt X b (k * 9 + j) v → CellAt W b (k * 9 + j) v := fun j v hj hc => ⟨cell_lt (ho j v hj hc.h), ho j v hj hc.h⟩
  exact ⟨h0, A, c, ds, ⟨key 0 _ (by omega) h1.c0, key 1 _ (by omega) h1.c1, key 2 _ (by omega) h1.c2, key 3 _ (by omega) h1.c3, key 4 _ (by omega) h1.c4, key 5 _ (by omega) h1.c5, key 6 _ (by omega) h1.c6, key 7 _ (by omega) h1.c7, key 8 _ (by omega) h1.c8⟩, h2.tr t, h3⟩
/-- its own block is as it was -/
theorem RfM.keep {X W : World} {E E' : List Nat} {x b c : Nat} {m : En} (h : RfM X E x b c m) (t : Tr E E' X W) (hb : W.heap[b]? = X.heap[b]?) (hE : b ∈ E') (hl : ∀ i ∈ E', i < W.heap.size) : RfM W E' x b c m where
  n1 := h.n1
  bx := (t.box h.bx h.xE).1
  xE := (t.box h.bx h.xE).2
  bE := hE
  fz := ⟨hl b hE, fun i => by
    have := h.fz.h i
    unfold World.frozen? at this ⊢
    rw [hb]; exact this⟩
  ltE := hl
  ro := fun k hk => (h.ro k hk).keep t (fun j u _ hu => by rw [World.cell?_of_block (w := X) hb]; exact hu)
  cm := h.cm
theorem RfM.below {X W : World} {E : List Nat} {x b c : Nat} {m : En} (h : RfM X E x b c m) (hb : Below X.heap.size X W) : RfM W E x b c m :=
  h.keep (.bel hb) (hb.block b h.fz.lt) h.bE (fun i hi => Nat.lt_of_lt_of_le (h.ltE i hi) hb.size)
/-- one row is written -/
theorem RfM.set {X W : World} {E : List Nat} {x b c k : Nat} {m m' : En} (h : RfM X E x b c m) (hk : k < 11) (t : W9 b k X W) (hf : FrzAt W b) (hn : m'.n = m.n) (hi : m'.i = m.i) (hr : RfR W E b k (m'.rwR k) (m'.cmR k)) (ho : ∀ k', k' < 11 → k' ≠ k → m'.rwR k' = m.rwR k' ∧ m'.cmR k' = m.cmR k') (hc : ∀ k c, m'.cm k = some c → 1 ≤ c.i) : RfM W E x b c m' := by
  have tE : Tr E E X W := .of (t.gr.mono' (fun i hi => by rw [List.mem_singleton] at hi; subst hi; exact h.bE))
  refine ⟨by rw [hn]; exact h.n1, by rw [hn, hi]; exact (tE.box h.bx h.xE).1, h.xE, h.bE, hf, fun i hi => Nat.lt_of_lt_of_le (h.ltE i hi) t.gr.size, fun k' hk' => ?_, hc⟩
  by_cases e : k' = k
  · subst e; exact hr
  · obtain ⟨e1, e2⟩ := ho k' hk' e
    rw [e1, e2]
    exact (h.ro k' hk').keep tE (fun j u hj hu => t.o _ u (by
      rcases Nat.lt_or_gt_of_ne e with h1 | h1
      · left
        have : k' * 9 + 9 ≤ k * 9 := by omega
        omega
      · right; omega) hu)
end Go.Proofs.YtniogmefbjfoaaaGreat

namespace Go.Proofs.YtniogmefbjfoaaaGreat
set_option linter.unusedSimpArgs false
set_option linter.unusedVariables false
set_option linter.unusedSectionVars false
open Go.RowKit Go.Maps

theorem rwR_oth {m : En} {k : Nat} (h : m.oth k) : m.rwR k = m.rw k := if_pos h
theorem put_same {m : En} {k : Nat} {r : Rw} (h : m.oth k) : (m.put k r).rwR k = r := by
  have h' : (m.put k r).oth k := h
  rw [rwR_oth h']
  simp [En.put]
theorem put_other {m : En} {k k' : Nat} {r : Rw} (e : k' ≠ k) : (m.put k r).rwR k' = m.rwR k' ∧ (m.put k r).cmR k' = m.cmR k' := by
  refine ⟨?_, rfl⟩
  have e' : ((k' : Nat) : Int) ≠ (k : Int) := by omega
  unfold En.rwR
  by_cases h : m.oth k'
  · rw [if_pos h, if_pos (show (m.put k r).oth k' from h)]
    simp [En.put, e']
  · rw [if_neg h, if_neg (show ¬ (m.put k r).oth k' from h)]
theorem oth_lt {m : En} {k : Nat} (h : m.oth k) : 1 ≤ k ∧ k ≤ 10 := by unfold En.oth at h; omega
def RetRf (w : World) (E : List Nat) (x b c : Nat) (v : Value) (m : En) (e : Ending) (W : World) : Prop := e = .returned v ∧ RfM W E x b c m ∧ Gr [b] w W
section
variable {E : List Nat} {x b c : Nat} {m : En}
theorem other16_b (w : World) (h : RfM w E x b c m) (n : Int) : Calls Tryz.prog 42 #[.pointer (some ⟨x, 0, none⟩), .int .i64 n] w (RetB w (decide (m.oth n))) := by
  haveI := h.bx
  have TN := hide (fun W => node7_b n W)
  have hun : ∀ b : Bool, (some undef = some (Value.bool b)) = False := fun b => by simp [undef]
  by_cases h1 : 1 ≤ n ∧ n ≤ 10
  · rw [decide_eq_true h1] at TN
    by_cases h2 : n = m.n
    · have e : decide (m.oth n) = false := decide_eq_false (fun h => h.2.2 h2)
      have e2 : (n != m.n) = false := by simpa using h2
      rw [e]
      clear h h1 h2 e
      go_enter Tryz.func42, Tryz.ntmps42
      go_wp2_with (go_at_call 66; (with_reducible refine (TN.out _).mono ?_); rintro e w1 ⟨rfl, hb1⟩; haveI : Stp _ w1 := ⟨hb1⟩; clear hb1)
      go_ret
      exact ⟨rfl, blw⟩
    · have e : decide (m.oth n) = true := decide_eq_true ⟨h1.1, h1.2, h2⟩
      have e2 : (n != m.n) = true := by simpa using h2
      rw [e]
      clear h h1 h2 e
      go_enter Tryz.func42, Tryz.ntmps42
      go_wp2_with (go_at_call 66; (with_reducible refine (TN.out _).mono ?_); rintro e w1 ⟨rfl, hb1⟩; haveI : Stp _ w1 := ⟨hb1⟩; clear hb1)
      go_ret
      exact ⟨rfl, blw⟩
  · rw [decide_eq_false h1] at TN
    have e : decide (m.oth n) = false := decide_eq_false (fun h => h1 ⟨h.1, h.2.1⟩)
    rw [e]
    clear h h1 e
    go_enter Tryz.func42, Tryz.ntmps42
    go_wp2_with (go_at_call 66; (with_reducible refine (TN.out _).mono ?_); rintro e w1 ⟨rfl, hb1⟩; haveI : Stp _ w1 := ⟨hb1⟩; clear hb1)
    go_ret
    exact ⟨rfl, blw⟩
theorem has16_b (A : Option Addr) (cc : Nat) (l : List Int) (n : Int) (w : World) (h : Reads w w.heap.size 1 A l.length (ics l)) (hl : l.length ≤ 1000000) : Calls Tryz.prog 43 #[.slice A l.length cc, .int .i64 n] w (RetB w (decide (n ∈ l))) := by
  have HD := hide h
  clear h
  go_enter Tryz.func43, Tryz.ntmps43
  go_wp2_with fail
  go_loopw [5] (fun i wr => ∃ k : Nat, k ≤ l.length ∧ i = .int .i64 k ∧ Below w.heap.size w wr ∧ n ∉ l.take k) (fun i _ => l.length - (intOf i).toNat)
  case atStart => exact ⟨0, Nat.zero_le _, rfl, blw, by simp⟩
  case round =>
    obtain ⟨k, hk, rfl, hB, hno⟩ := hrel
    haveI : Blw w wr := ⟨hB⟩
    have HB := hide hB
    have HNO := hide hno
    clear hB hno
    by_cases hlt : k < l.length
    · have HR : Hid (Reads wr wr.heap.size 1 A l.length (ics l)) := hide ((HD.out.below HB.out).more HB.out.size)
      obtain ⟨b, off, y, rfl, hb, hy, g1⟩ := Reads.atI HR.out hlt
      haveI : CellAt wr b (off + k) (.int .i64 y) := ⟨hb, g1⟩
      have i0 : (0 : Int) ≤ (k : Int) := by omega
      have i1 : (k : Int) < (l.length : Int) := by omega
      have HY := hide hy
      clear hb hy g1
      by_cases hyn : y = n
      · have e1 : (y == n) = true := by simpa using hyn
        have e : decide (n ∈ l) = true := decide_eq_true (by rw [← hyn]; exact List.mem_of_getElem? HY.out)
        rw [e]
        clear hyn e
        go_wp2_with fail
        go_ret
        exact ⟨rfl, blw⟩
      · have e1 : (y == n) = false := beq_eq_false_iff_ne.2 hyn
        have HN := hide hyn
        clear hyn
        go_wp2_with fail
        go_roundw
        case rel => exact ⟨k + 1, by omega, by go_num, blw, by
          rw [take_succ_of HY.out, List.mem_append, List.mem_singleton]
          rintro (h1 | h1)
          · exact HNO.out h1
          · exact HN.out h1.symm⟩
        case measure => simp [intOf]; omega
    · have hke : k = l.length := by omega
      subst hke
      have e : decide (n ∈ l) = false := decide_eq_false (by have := HNO.out; rwa [List.take_length] at this)
      have HE := hide e
      clear e
      go_wp2_with fail
      go_ret
      exact ⟨by rw [HE.out]; rfl, blw⟩
set_option maxRecDepth 100000 in
set_option maxHeartbeats 4000000 in
theorem anew16_s (w : World) (h : RfM w E x b c m) (k : Nat) (hk : m.oth k) : Calls Tryz.prog 44 #[.pointer (some ⟨x, 0, none⟩), .int .i64 k] w (RetRf w E x b c (.tuple #[]) (m.put k (m.rw k).anew)) := by
  have HE := hide h
  have HK := hide hk
  have hkk := oth_lt hk
  obtain ⟨hok, A, c', ds, h9, hds, hmap, hcl⟩ := h.ro k (by omega)
  rw [rwR_oth hk] at hok h9 hmap hcl
  have hxb : x ≠ b := fun e => h.xE (by rw [e]; exact h.bE)
  haveI : NeN x b := ⟨hxb⟩
  haveI := h.bx
  haveI := h.fz
  haveI := h9.c0
  haveI := h9.c1
  haveI := h9.c2
  haveI := h9.c3
  haveI := h9.c4
  haveI := h9.c5
  haveI := h9.c6
  haveI := h9.c7
  haveI := h9.c8
  have HOK := hide hok
  have i0 : (0 : Int) ≤ (k : Int) := by omega
  have i1 : (k : Int) < 11 := by omega
  clear h h9 hds hmap hcl hok hk hxb
  go_enter Tryz.func44, Tryz.ntmps44
  go_wp2_with fail
  go_end0
  simp only [Nat.add_assoc, Nat.reduceAdd]
  refine ⟨rfl, HE.out.set (k := k) (by omega) inferInstance inferInstance rfl rfl ?_ (fun k' _ e => put_other e) HE.out.cm, (inferInstance : W9 b k w _).gr⟩
  rw [put_same HK.out]
  exact ⟨⟨by simp [Rw.anew], by simp [Rw.anew], by simp [Rw.anew], by simp [Rw.anew], HOK.out.s0, HOK.out.s1⟩, none, 0, [], ⟨inferInstance, inferInstance, inferInstance, inferInstance, inferInstance, inferInstance, inferInstance, inferInstance, inferInstance⟩, Bds.nil _ _ _, rfl, Nat.le_refl _⟩
theorem waits16_b (w : World) (h : RfM w E x b c m) (n : Int) : Calls Tryz.prog 21 #[.pointer (some ⟨x, 0, none⟩), .int .i64 n] w fun e w' => e = .returned (.int .i64 (m.waits n)) ∧ Below w.heap.size w w' := by
  have TO := hide (fun W (h : RfM W E x b c m) => other16_b W h n)
  have HE := hide h
  by_cases ho : m.oth n
  · rw [decide_eq_true ho] at TO
    have e : m.waits n = ((m.rw n).bx.length : Int) := if_pos ho
    rw [e]
    obtain ⟨k, rfl⟩ : ∃ k : Nat, n = k := ⟨n.toNat, by have := ho.1; omega⟩
    have hkk := oth_lt ho
    obtain ⟨hok, A, c', ds, h9, hds, hmap, hcl⟩ := h.ro k (by omega)
    rw [rwR_oth ho] at hok h9 hmap hcl
    haveI := h.bx
    haveI := h9.c3
    have i0 : (0 : Int) ≤ (k : Int) := by omega
    have i1 : (k : Int) < 11 := by omega
    clear h h9 hds hmap hcl hok ho e
    go_enter Tryz.func21, Tryz.ntmps21
    go_wp2_with (go_at_call 42; (with_reducible refine (TO.out _ (HE.out.below blw)).mono ?_); rintro e w1 ⟨rfl, hb1⟩; haveI : Stp _ w1 := ⟨hb1⟩; clear hb1)
    go_ret
    exact ⟨rfl, blw⟩
  · rw [decide_eq_false ho] at TO
    have e : m.waits n = 0 := if_neg ho
    rw [e]
    clear h ho e
    go_enter Tryz.func21, Tryz.ntmps21
    go_wp2_with (go_at_call 42; (with_reducible refine (TO.out _ (HE.out.below blw)).mono ?_); rintro e w1 ⟨rfl, hb1⟩; haveI : Stp _ w1 := ⟨hb1⟩; clear hb1)
    go_ret
    exact ⟨rfl, blw⟩
/-- the nodes below a number -/
def En.nodesJ (m : En) (j : Nat) : List Int := (tens.take (j - 1)).filter m.isR
theorem nodesJ_succ {m : En} {j : Nat} (h1 : 1 ≤ j) (h2 : j ≤ 10) : m.nodesJ (j + 1) = m.nodesJ j ++ (if m.isR j then [(j : Int)] else []) := by
  unfold En.nodesJ
  obtain ⟨k, rfl⟩ : ∃ k, j = k + 1 := ⟨j - 1, by omega⟩
  have e : ((k + 1 : Nat) : Int) = (k : Int) + 1 := by omega
  rw [show k + 1 + 1 - 1 = k + 1 by omega, show k + 1 - 1 = k by omega, take_succ_of (tens_at (by omega : k < 10)), List.filter_append, e]
  congr 1
  cases h : m.isR ((k : Int) + 1) <;> simp [h]
theorem rwR_rl {m : En} {k : Nat} : (m.rwR k).rl = m.isR k := by
  unfold En.rwR En.isR
  by_cases h : m.oth k
  · rw [if_pos h, decide_eq_true h]; rfl
  · rw [if_neg h, decide_eq_false h]; rfl
theorem own_i1x (W : World) (q : Nat) (y : Int) [h : BoxAt W q #[.int .i64 y] 3] : Reads W W.heap.size 1 (some ⟨q, 0, none⟩) 1 (ics [y]) :=
  ⟨rfl, fun _ => ⟨_, _, rfl, h.lt, fun j u hu => by
    cases j with
    | zero => simp [ics] at hu; subst hu; rw [cell?_box]; rfl
    | succ j => simp [ics] at hu⟩⟩
set_option maxRecDepth 100000 in
set_option maxHeartbeats 4000000 in
theorem nodes16r_s (w : World) (h : RfM w E x b c m) : Calls Tryz.prog 20 #[.pointer (some ⟨x, 0, none⟩)] w fun e w' => ∃ v, e = .returned v ∧ w'.ownsRow w.heap.size 3 1 v m.nodes.length (ics m.nodes) ∧ Below w.heap.size w w' := by
  have HE := hide h
  clear h
  go_enter Tryz.func20, Tryz.ntmps20
  go_wp2_with fail
  go_loopw [4, 3] (fun i v wr => ∃ j : Nat, 1 ≤ j ∧ j ≤ 11 ∧ i = .int .i64 j ∧ wr.ownsRow w.heap.size 3 1 v (m.nodesJ j).length (ics (m.nodesJ j)) ∧ Below w.heap.size w wr) (fun i _ _ => 11 - (intOf i).toNat)
  case atStart => exact ⟨1, by omega, by omega, rfl, World.ownsRow_nil _ _ _ _, blw⟩
  case round =>
    obtain ⟨k, hk1, hk, rfl, ho, hB⟩ := hrel
    obtain ⟨A5, c5, rfl, _, _⟩ := own_slice ho
    haveI : Blw w wr := ⟨hB⟩
    have hnl : (m.nodesJ k).length ≤ 10 := Nat.le_trans (List.length_filter_le _ _) (by rw [List.length_take]; have : tens.length = 10 := rfl; omega)
    have zr := hB.size
    have HM := hide (HE.out.below hB)
    by_cases hlt : k ≤ 10
    · obtain ⟨_, _, _, _, h9, _⟩ := HM.out.ro k (by omega)
      haveI := HM.out.bx
      have hc1 := h9.c1
      rw [rwR_rl] at hc1
      haveI := hc1
      have HT := hide (nodesJ_succ (m := m) hk1 hlt)
      have i0 : (0 : Int) ≤ (k : Int) := by omega
      have i1 : (k : Int) < 11 := by omega
      have e1 : decide ((k : Int) ≤ 10) = true := decide_eq_true (by omega)
      have e1n : decide (k ≤ 10) = true := decide_eq_true hlt
      clear h9
      cases hR : m.isR k with
      | true =>
        rw [hR] at hc1
        haveI := hc1
        have HR := hide hR
        have HO := hide ho
        generalize m.nodesJ k = L at HO hnl HT
        have HB := hide hB
        clear hR hc1 ho hB
        go_wp2_with ((at_builtin; refine wpList_append_x Tryz.okI rfl (.tmp 17) (.tmp 19) rfl w.heap.size (.slice A5 L.length c5) L.length (ics L) 1 (ics [(k : Int)]) ?_ ?_ ?_ ?_ ?_ ?_ ?_ ?_; go_must ((focus (first | rfl | (simp [Act.eval, Act.put]; done))); (focus (exact own_tc HO.out)); (focus (refine ⟨_, _, rfl, ?_⟩; exact own_i1x _ _ (k : Int))); (focus (exact ics_one _)); (focus (unfold maxLen; omega)); (focus omega); (focus (first | omega | (simp; done) | (simp; omega) | exact blw.size | exact BoxAt.lt (n := w.heap.size) inferInstance)); intro v7 w7 ho7 hg7 ha7; haveI : StpB w.heap.size _ w7 := ⟨grown_belowT hg7 (by simp; omega) (fun q hq => (HO.out.lt q hq).1)⟩; have O7 := hide ho7; clear ho7 hg7 ha7)))
        go_wp2_with fail
        go_roundw
        case rel => exact ⟨k + 1, by omega, by omega, by go_num, by rw [HT.out, HR.out, if_pos rfl, List.length_append, ics_app]; exact O7.out, blw⟩
        case measure => simp [intOf]; omega
      | false =>
        rw [hR] at hc1
        haveI := hc1
        have HR := hide hR
        have HO := hide ho
        have HB := hide hB
        clear hR hc1 ho hB
        go_wp2_with fail
        go_roundw
        case rel => exact ⟨k + 1, by omega, by omega, by go_num, by rw [HT.out, HR.out]; simpa using HO.out, blw⟩
        case measure => simp [intOf]; omega
    · have hke : k = 11 := by omega
      subst hke
      have HO := hide ho
      have HB := hide hB
      clear ho hB
      go_wp2_with fail
      go_ret
      exact ⟨_, rfl, HO.out, blw⟩
end
end Go.Proofs.YtniogmefbjfoaaaGreat

namespace Go.Proofs.YtniogmefbjfoaaaGreat
set_option linter.unusedSimpArgs false
set_option linter.unusedVariables false
set_option linter.unusedSectionVars false
open Go.RowKit Go.Maps

theorem RfM.congr {W : World} {E : List Nat} {x b c : Nat} {m m' : En} (h : RfM W E x b c m) (hn : m'.n = m.n) (hi : m'.i = m.i) (hr : ∀ k, k < 11 → m'.rwR k = m.rwR k) (hc : m'.cm = m.cm) : RfM W E x b c m' where
  n1 := by rw [hn]; exact h.n1
  bx := by rw [hn, hi]; exact h.bx
  xE := h.xE
  bE := h.bE
  fz := h.fz
  ltE := h.ltE
  ro := fun k hk => by
    have e : m'.cmR k = m.cmR k := by unfold En.cmR; rw [hc]
    rw [hr k hk, e]
    exact h.ro k hk
  cm := fun k c hk => h.cm k c (by rw [← hc]; exact hk)
/-- one field of a row of another node -/
theorem RfM.field {W : World} {E : List Nat} {x b c k j : Nat} {m : En} {v : Value} {r : Rw} (h : RfM W E x b c m) (hk : m.oth k) (hj : j < 9) (hr : RwOk r) (hb : r.bx = (m.rw k).bx)
    (hc : ∀ A cc, Rr9 W b k (m.rw k) A cc (m.cmR k) → Rr9 (W.setCell ⟨b, k * 9 + j, none⟩ v) b k r A cc (m.cmR k)) : RfM (W.setCell ⟨b, k * 9 + j, none⟩ v) E x b c (m.put k r) ∧ Gr [b] W (W.setCell ⟨b, k * 9 + j, none⟩ v) := by
  have hkk := oth_lt hk
  have t : W9 b k W (W.setCell ⟨b, k * 9 + j, none⟩ v) := W9.setJ hj (W9.rf b k W)
  refine ⟨h.set (k := k) (by omega) t (by haveI := h.fz; exact inferInstance) rfl rfl ?_ (fun k' _ e => put_other e) h.cm, t.gr⟩
  obtain ⟨hok, A, c', ds, h9, hds, hmap, hcl⟩ := h.ro k (by omega)
  rw [rwR_oth hk] at hok h9 hmap hcl
  rw [put_same hk]
  exact ⟨hr, A, c', ds, hc A c' h9, hds.tr (.of (t.gr.mono' (fun i hi => by rw [List.mem_singleton] at hi; subst hi; exact h.bE))), by rw [hb]; exact hmap, by rw [hb]; exact hcl⟩
theorem RfM.setRl {W : World} {E : List Nat} {x b c k : Nat} {m : En} (h : RfM W E x b c m) (hk : m.oth k) (v : Bool) : RfM (W.setCell ⟨b, k * 9 + 1, none⟩ (.bool v)) E x b c (m.put k { m.rw k with rl := v }) ∧ Gr [b] W (W.setCell ⟨b, k * 9 + 1, none⟩ (.bool v)) := by
  have hkk := oth_lt hk
  have hok := (h.ro k (by omega)).1
  rw [rwR_oth hk] at hok
  refine h.field hk (by omega) ⟨hok.bl, hok.b0, hok.bm, hok.bb, hok.s0, hok.s1⟩ rfl (fun A cc h9 => ?_)
  haveI := h9.c0; haveI := h9.c1; haveI := h9.c2; haveI := h9.c3; haveI := h9.c4; haveI := h9.c5; haveI := h9.c6; haveI := h9.c7; haveI := h9.c8
  exact ⟨inferInstance, inferInstance, inferInstance, inferInstance, inferInstance, inferInstance, inferInstance, inferInstance, inferInstance⟩
theorem RfM.setAk {W : World} {E : List Nat} {x b c k : Nat} {m : En} (h : RfM W E x b c m) (hk : m.oth k) (v : Int) : RfM (W.setCell ⟨b, k * 9 + 4, none⟩ (.int .u64 v)) E x b c (m.put k { m.rw k with ak := v }) ∧ Gr [b] W (W.setCell ⟨b, k * 9 + 4, none⟩ (.int .u64 v)) := by
  have hkk := oth_lt hk
  have hok := (h.ro k (by omega)).1
  rw [rwR_oth hk] at hok
  refine h.field hk (by omega) ⟨hok.bl, hok.b0, hok.bm, hok.bb, hok.s0, hok.s1⟩ rfl (fun A cc h9 => ?_)
  haveI := h9.c0; haveI := h9.c1; haveI := h9.c2; haveI := h9.c3; haveI := h9.c4; haveI := h9.c5; haveI := h9.c6; haveI := h9.c7; haveI := h9.c8
  exact ⟨inferInstance, inferInstance, inferInstance, inferInstance, inferInstance, inferInstance, inferInstance, inferInstance, inferInstance⟩
theorem RfM.setSt {W : World} {E : List Nat} {x b c k : Nat} {m : En} (h : RfM W E x b c m) (hk : m.oth k) (v : Int) (v0 : 0 ≤ v) (v1 : v ≤ 18446744073709551615) : RfM (W.setCell ⟨b, k * 9 + 5, none⟩ (.int .u64 v)) E x b c (m.put k { m.rw k with st := v }) ∧ Gr [b] W (W.setCell ⟨b, k * 9 + 5, none⟩ (.int .u64 v)) := by
  have hkk := oth_lt hk
  have hok := (h.ro k (by omega)).1
  rw [rwR_oth hk] at hok
  refine h.field hk (by omega) ⟨hok.bl, hok.b0, hok.bm, hok.bb, v0, v1⟩ rfl (fun A cc h9 => ?_)
  haveI := h9.c0; haveI := h9.c1; haveI := h9.c2; haveI := h9.c3; haveI := h9.c4; haveI := h9.c5; haveI := h9.c6; haveI := h9.c7; haveI := h9.c8
  exact ⟨inferInstance, inferInstance, inferInstance, inferInstance, inferInstance, inferInstance, inferInstance, inferInstance, inferInstance⟩
theorem put_rw {m : En} {n : Int} {r : Rw} : (m.put n r).rw n = r := by simp [En.put]
theorem put_put {m : En} {n : Int} {r r' : Rw} : (m.put n r).put n r' = m.put n r' := by
  unfold En.put
  congr 1
  funext k
  by_cases h : k = n <;> simp [h]
/-- the nodes below a number are told -/
def En.relJ (m : En) (l : List Int) (j : Nat) : En := { m with rw := fun n => if n < j then (m.rw n).rel (decide (n ∈ l)) else m.rw n }
theorem relJ_put {m : En} {l : List Int} {j k : Nat} (hk : k < 11) {r : Rw} (hr : r = (m.rw j).rel (decide ((j : Int) ∈ l))) : ((m.relJ l j).put j r).rwR k = (m.relJ l (j + 1)).rwR k := by
  have e : ∀ n : Int, ((m.relJ l j).put j r).rw n = (m.relJ l (j + 1)).rw n := fun n => by
    unfold En.put En.relJ
    by_cases h : n = j
    · subst h
      simp only [if_true]
      rw [if_pos (by omega), hr]
    · simp only [if_neg h]
      by_cases h2 : n < j
      · rw [if_pos h2, if_pos (by omega)]
      · rw [if_neg h2, if_neg (by omega)]
  unfold En.rwR
  rw [e]
  rfl
theorem relJ_skip {m : En} {l : List Int} {j k : Nat} (hj : ¬ m.oth j) : (m.relJ l (j + 1)).rwR k = (m.relJ l j).rwR k := by
  unfold En.rwR
  by_cases h : m.oth k
  · rw [if_pos (show (m.relJ l (j + 1)).oth k from h), if_pos (show (m.relJ l j).oth k from h)]
    have hne : k ≠ j := fun e => hj (by rw [← e]; exact h)
    unfold En.relJ
    simp only
    by_cases h2 : (k : Int) < j
    · rw [if_pos h2, if_pos (by omega)]
    · rw [if_neg h2, if_neg (by omega)]
  · rw [if_neg (show ¬ (m.relJ l (j + 1)).oth k from h), if_neg (show ¬ (m.relJ l j).oth k from h)]
theorem relJ_all {m : En} {l : List Int} {k : Nat} (hk : k < 11) : (m.reliable l).rwR k = (m.relJ l 11).rwR k := by
  unfold En.rwR En.reliable En.relJ
  simp only
  rw [if_pos (by omega : (k : Int) < ((11 : Nat) : Int))]
  rfl
theorem relJ_rw {m : En} {l : List Int} {j : Nat} : (m.relJ l j).rw j = m.rw j := by
  unfold En.relJ
  simp only
  rw [if_neg (by omega)]
end Go.Proofs.YtniogmefbjfoaaaGreat

namespace Go.Proofs.YtniogmefbjfoaaaGreat
set_option linter.unusedSimpArgs false
set_option linter.unusedVariables false
set_option linter.unusedSectionVars false
open Go.RowKit Go.Maps

section
variable {E : List Nat} {x b c : Nat} {m : En}
set_option maxRecDepth 100000 in
set_option maxHeartbeats 8000000 in
theorem reliable16r_s (w : World) (h : RfM w E x b c m) (A : Option Addr) (cc : Nat) (l : List Int) (hl : RO w E 1 A l.length (ics l)) (hn : l.length ≤ 1000000) : Calls Tryz.prog 22 #[.pointer (some ⟨x, 0, none⟩), .slice A l.length cc] w (RetRf w E x b c (.tuple #[]) (m.reliable l)) := by
  have HE := hide h
  have HL := hide hl
  have hxb : x ≠ b := fun e => h.xE (by rw [e]; exact h.bE)
  haveI : NeN x b := ⟨hxb⟩
  have HbE := hide h.bE
  clear h hl hxb
  go_enter Tryz.func22, Tryz.ntmps22
  go_wp2_with fail
  go_loopw [4] (fun i wr => ∃ j : Nat, 1 ≤ j ∧ j ≤ 11 ∧ i = .int .i64 j ∧ RfM wr E x b c (m.relJ l j) ∧ Gr [b] w wr) (fun i _ => 11 - (intOf i).toNat)
  case atStart =>
    refine ⟨1, by omega, by omega, rfl, HE.out.congr rfl rfl (fun k _ => ?_) rfl, Gr.refl _ _⟩
    unfold En.rwR
    by_cases hk : m.oth k
    · rw [if_pos hk, if_pos (show (m.relJ l 1).oth k from hk)]
      unfold En.relJ
      simp only
      rw [if_neg (by have := hk.1; omega)]
    · rw [if_neg hk, if_neg (show ¬ (m.relJ l 1).oth k from hk)]
  case round =>
    obtain ⟨j, hj1, hj, rfl, hm, hg⟩ := hrel
    have HM := hide hm
    have HG := hide hg
    have HLr : Hid (Reads wr wr.heap.size 1 A l.length (ics l)) := hide (HL.out.tr (C' := E) (.of (hg.mono' (fun i hi => by rw [List.mem_singleton] at hi; subst hi; exact HbE.out)))).1
    have TO : Hid (∀ W, Below wr.heap.size wr W → Calls Tryz.prog 42 #[.pointer (some ⟨x, 0, none⟩), .int .i64 j] W (RetB W (decide (m.oth j)))) := hide (fun W hW => other16_b W (HM.out.below hW) j)
    have TH : Hid (∀ X W, Reads X X.heap.size 1 A l.length (ics l) → Below X.heap.size X W → Calls Tryz.prog 43 #[.slice A l.length cc, .int .i64 j] W (RetB W (decide ((j : Int) ∈ l)))) := hide (fun X W hX hW => has16_b A cc l j W ((hX.below hW).more hW.size) hn)
    clear hm hg
    by_cases hlt : j ≤ 10
    · have e1 : decide ((j : Int) ≤ 10) = true := decide_eq_true (by omega)
      have e1n : decide (j ≤ 10) = true := decide_eq_true hlt
      by_cases ho : m.oth j
      · rw [decide_eq_true ho] at TO
        have HO := hide ho
        have hoj : (m.relJ l j).oth j := ho
        obtain ⟨hok, A', c', ds, h9, hds, hmap, hcl⟩ := HM.out.ro j (by omega)
        rw [rwR_oth hoj, relJ_rw] at h9
        haveI := HM.out.bx
        haveI := HM.out.fz
        have hc1 := h9.c1
        haveI := hc1
        have i0 : (0 : Int) ≤ (j : Int) := by omega
        have i1 : (j : Int) < 11 := by omega
        have HR := hide (fun k (hk : k < 11) r hr => relJ_put (m := m) (l := l) (j := j) (k := k) hk (r := r) hr)
        clear h9 hds hmap hcl hok ho hoj
        cases hrl : (m.rw j).rl with
        | false =>
          rw [hrl] at hc1
          haveI := hc1
          have HRL := hide hrl
          clear hrl hc1
          go_upto_region 6 with (go_at_call 42; (with_reducible refine (TO.out _ blw).mono ?_); rintro e w1 ⟨rfl, hb1⟩; haveI : Stp _ w1 := ⟨hb1⟩; clear hb1)
          go_region_held3 (fun w' => w'.cell? ⟨x, 2, none⟩ = some (.slice (some ⟨b, 0, none⟩) 11 c)) ((rw [cell?_box]; rfl)) (first | (go_at_call 43; (with_reducible refine (TH.out _ _ HLr.out blw).mono ?_); rintro e w2 ⟨rfl, hb2⟩; haveI : Stp _ w2 := ⟨hb2⟩; clear hb2) | fail)
          all_goals
            go_wp2_with fail
            go_roundw
            case rel =>
              obtain ⟨f1, f2⟩ := (HM.out.below (by exact (blw (W := w2)))).setRl (k := j) HO.out (decide ((j : Int) ∈ l))
              exact ⟨j + 1, by omega, by omega, by go_num, f1.congr rfl rfl (fun k hk => (HR.out k hk _ (by rw [relJ_rw]; unfold Rw.rel; rw [HRL.out]; simp)).symm) rfl, (HG.out.trans (.of (blw (W := w2)))).trans f2⟩
            case measure => simp [intOf]; omega
        | true =>
          rw [hrl] at hc1
          haveI := hc1
          have HRL := hide hrl
          clear hrl hc1
          by_cases hin : (j : Int) ∈ l
          · have HIN := hide hin
            rw [decide_eq_true hin] at TH
            clear hin
            go_upto_region 6 with (first
              | (go_at_call 42; (with_reducible refine (TO.out _ blw).mono ?_); rintro e w1 ⟨rfl, hb1⟩; haveI : Stp _ w1 := ⟨hb1⟩; clear hb1)
              | (go_at_call 43; (with_reducible refine (TH.out _ _ HLr.out blw).mono ?_); rintro e w3 ⟨rfl, hb3⟩; haveI : Stp _ w3 := ⟨hb3⟩; clear hb3))
            go_region_held3 (fun w' => w'.cell? ⟨x, 2, none⟩ = some (.slice (some ⟨b, 0, none⟩) 11 c)) ((rw [cell?_box]; rfl)) (first | (go_at_call 43; (with_reducible refine (TH.out _ _ HLr.out blw).mono ?_); rintro e w2 ⟨rfl, hb2⟩; haveI : Stp _ w2 := ⟨hb2⟩; clear hb2) | fail)
            all_goals
              go_wp2_with fail
              go_roundw
              case rel =>
                obtain ⟨f1, f2⟩ := (HM.out.below (by exact (blw (W := w2)))).setRl (k := j) HO.out true
                exact ⟨j + 1, by omega, by omega, by go_num, f1.congr rfl rfl (fun k hk => (HR.out k hk _ (by rw [relJ_rw, decide_eq_true HIN.out]; unfold Rw.rel; rw [HRL.out]; simp)).symm) rfl, (HG.out.trans (.of (blw (W := w2)))).trans f2⟩
              case measure => simp [intOf]; omega
          · have HIN := hide hin
            rw [decide_eq_false hin] at TH
            have TA : Hid (∀ W, Below wr.heap.size wr W → Calls Tryz.prog 44 #[.pointer (some ⟨x, 0, none⟩), .int .i64 j] W (RetRf W E x b c (.tuple #[]) ((m.relJ l j).put j ((m.relJ l j).rw j).anew))) := hide (fun W hW => anew16_s W (HM.out.below hW) j HO.out)
            clear hin
            go_upto_region 6 with (first
              | (go_at_call 42; (with_reducible refine (TO.out _ blw).mono ?_); rintro e w1 ⟨rfl, hb1⟩; haveI : Stp _ w1 := ⟨hb1⟩; clear hb1)
              | (go_at_call 43; (with_reducible refine (TH.out _ _ HLr.out blw).mono ?_); rintro e w3 ⟨rfl, hb3⟩; haveI : Stp _ w3 := ⟨hb3⟩; clear hb3)
              | (go_at_call 44; (with_reducible refine (TA.out _ blw).mono ?_); rintro e w4 ⟨rfl, hm4, hg4⟩; have HM4 := hide hm4; have HG4 := hide ((Gr.of (C := [b]) (blw (a := wr))).trans hg4); haveI := hm4.bx; haveI := hm4.fz; clear hm4 hg4))
            have hoj : ((m.relJ l j).put j ((m.relJ l j).rw j).anew).oth j := HO.out
            obtain ⟨_, _, _, _, h9, _⟩ := HM4.out.ro j (by omega)
            rw [rwR_oth hoj, put_rw, relJ_rw] at h9
            haveI := h9.c1
            have HL4 : Hid (Reads w4 w4.heap.size 1 A l.length (ics l)) := hide (HL.out.tr (C' := E) (.of ((HG.out.trans HG4.out).mono' (fun i hi => by rw [List.mem_singleton] at hi; subst hi; exact HbE.out)))).1
            clear h9 hoj
            go_region_held3 (fun w' => w'.cell? ⟨x, 2, none⟩ = some (.slice (some ⟨b, 0, none⟩) 11 c)) ((rw [cell?_box]; rfl)) (first | (go_at_call 43; (with_reducible refine (TH.out _ _ HL4.out blw).mono ?_); rintro e w2 ⟨rfl, hb2⟩; haveI : Stp _ w2 := ⟨hb2⟩; clear hb2) | fail)
            all_goals
              go_wp2_with fail
              go_roundw
              case rel =>
                obtain ⟨f1, f2⟩ := (HM4.out.below (by exact (blw (W := w2)))).setRl (k := j) HO.out false
                rw [put_put, put_rw] at f1
                exact ⟨j + 1, by omega, by omega, by go_num, f1.congr rfl rfl (fun k hk => (HR.out k hk _ (by rw [relJ_rw, decide_eq_false HIN.out]; unfold Rw.rel; rw [HRL.out]; simp)).symm) rfl, ((HG.out.trans HG4.out).trans (.of (blw (W := w2)))).trans f2⟩
              case measure => simp [intOf]; omega
      · rw [decide_eq_false ho] at TO
        have HO := hide ho
        clear ho
        go_wp2_with (go_at_call 42; (with_reducible refine (TO.out _ blw).mono ?_); rintro e w1 ⟨rfl, hb1⟩; haveI : Stp _ w1 := ⟨hb1⟩; clear hb1)
        go_roundw
        case rel => exact ⟨j + 1, by omega, by omega, by go_num, (HM.out.below blw).congr rfl rfl (fun k _ => relJ_skip HO.out) rfl, HG.out.trans (.of blw)⟩
        case measure => simp [intOf]; omega
    · have hke : j = 11 := by omega
      subst hke
      go_wp2_with fail
      go_end0
      exact ⟨rfl, HM.out.congr rfl rfl (fun k hk => relJ_all hk) rfl, HG.out⟩
end
end Go.Proofs.YtniogmefbjfoaaaGreat

namespace Go.Proofs.YtniogmefbjfoaaaGreat
set_option linter.unusedSimpArgs false
set_option linter.unusedVariables false
set_option linter.unusedSectionVars false
open Go.RowKit Go.Maps

def RetDr (w : World) (n i : Int) (HA : Option Addr) (hn hc : Nat) (bs : List Int) (e : Ending) (w' : World) : Prop := ∃ A' c', e = .returned (PkV 2 n i 8 HA hn hc A' bs.length c' 0 0 0 none 0 0) ∧ OwnB w' w.heap.size (.slice A' bs.length c') bs ∧ Below w.heap.size w w'
/-- a packet that is made of a head's box and a body of one's own -/
theorem pm_mk {W : World} {lo hb B : Nat} {v : Value} {k n i hp : Int} {d : Hd} {hcp : Nat} {A' : Option Addr} {c' : Nat} {bs : List Int} (h1 : BoxAt W hb #[.int .i64 d.d, .int .u64 d.c, .int .u64 d.s, .int .u64 d.i] 93) (h2 : ∀ j ∈ ownL v, j < hb) (h3 : lo ≤ hb) (h4 : OwnB W B (.slice A' bs.length c') bs) (h5 : hb ≤ B) :
    PmP lo W (ownL v) ⟨⟨k, n, i, hp, [d], bs, 0, 0, 0, []⟩, some ⟨hb, 0, none⟩, hcp, A', c'⟩ := by
  haveI := h1
  refine ⟨⟨reads_hd1x W hb d, fun _ a ha hm => ?_⟩, RO.own h4 (fun j hj => by have := h2 j hj; omega), fun a ha => ?_, fun a ha => ?_, rfl, NF.box h1, NF.own h4⟩
  · injection ha with ha
    subst ha
    exact Nat.lt_irrefl _ (h2 _ hm)
  · injection ha with ha
    subst ha
    exact h3
  · simp only at ha
    subst ha
    have := (h4.lt _ rfl).1
    omega
section
variable {E : List Nat} {x b c : Nat} {m : En}
set_option maxRecDepth 100000 in
set_option maxHeartbeats 8000000 in
theorem data16r_s (w : World) (h : RfM w E x b c m) (BA : Option Addr) (bc : Nat) (bs : List Int) (HA : Option Addr) (hn hc : Nat) (hB : Reads w w.heap.size 1 BA bs.length (bcs bs)) (hbl : bs.length ≤ 1000000) :
    Calls Tryz.prog 47 #[.pointer (some ⟨x, 0, none⟩), .slice BA bs.length bc, .slice HA hn hc] w (RetDr w m.n m.i HA hn hc bs) := by
  haveI := h.bx
  haveI : LtN x w.heap.size := ⟨h.bx.lt⟩
  haveI : Src w BA bs.length 1 (bcs bs) := ⟨hB⟩
  clear h hB
  go_enter Tryz.func47, Tryz.ntmps47
  go_upto_region 1 with fail
  go_region_law
    (first
      | (refine step_append_w Tryz.okB rfl (.tmp 12) (.tmp 13) rfl (w.heap.size + 1) (.slice (some ⟨w.heap.size + 1, 0, none⟩) 0 0) 0 [] bs.length (bcs bs) ?_ ?_ ?_ ?_ ?_ ?_ ?_ ?_; ((focus (first | rfl | (simp [Act.eval, Act.put]; done))); (focus (exact own_emB7 _ _ _ (Nat.le_refl _))); (focus (refine ⟨_, _, by first | rfl | (simp [Act.eval, Act.put]; done), ?_⟩; exact src)); (focus (exact bcs_one _)); (focus (unfold maxLen; omega)); (focus omega); (focus (first | omega | (simp; done) | (simp; omega) | exact blw.size | exact BoxAt.lt (n := w.heap.size) inferInstance)); intro v6 w6 ho6 hg6; rw [Nat.zero_add, List.nil_append] at ho6; haveI : StpB (w.heap.size + 1) _ w6 := ⟨grown_belowT hg6 (by simp) (fun k hk => by have e : w.heap.size + 1 = k := Option.some.inj hk; omega)⟩; obtain ⟨A6, c6, rfl, _, _⟩ := own_slice ho6; have z6 : w.heap.size + 1 ≤ w6.heap.size := (by have := hg6.size; (try simp at this); omega); have O6 := hide ho6; clear ho6 hg6))
      | fail)
  all_goals
    go_wp2_with fail
    refine bodyPost_ret (v := PkV 2 m.n m.i 8 HA hn hc A6 bs.length c6 0 0 0 none 0 0) (by simp [results, Tryz.results47, go_sem]) rfl ?_
    refine ⟨A6, c6, rfl, own_lo (own_same O6.out (fun i hi => ?_)) (by omega), blw⟩
    exact (Trc.h (C := [w.heap.size]) (a := w6)).g.blk i (O6.out.lt i hi).2 (fun hm => by rw [List.mem_singleton] at hm; have := (O6.out.lt i hi).1; omega)
end
end Go.Proofs.YtniogmefbjfoaaaGreat

namespace Go.Proofs.YtniogmefbjfoaaaGreat
set_option linter.unusedSimpArgs false
set_option linter.unusedVariables false
set_option linter.unusedSectionVars false
open Go.RowKit Go.Maps

section
variable {E : List Nat} {x b c : Nat} {m : En}
set_option maxRecDepth 100000 in
set_option maxHeartbeats 8000000 in
theorem due16r_s (w : World) (h : RfM w E x b c m) (k : Nat) (hk : m.oth k) (above : Int) :
    Calls Tryz.prog 52 #[.pointer (some ⟨x, 0, none⟩), .int .i64 k, .int .u64 above] w fun e w' => ∃ v ps, e = .returned v ∧ PmG w.heap.size w' v ps ∧ ps.map Pm.x = m.due k (m.rw k) above ∧ Below w.heap.size w w' := by
  have HE := hide h
  have HK := hide hk
  have hkk := oth_lt hk
  obtain ⟨hok, A, c', ds, h9, hds, hmap, hcl⟩ := h.ro k (by omega)
  rw [rwR_oth hk] at hok h9 hmap hcl
  have hl : ds.length = (m.rw k).bx.length := by rw [← hmap, List.length_map]
  haveI := h.bx
  haveI := h9.c0
  haveI := h9.c2
  haveI := h9.c3
  haveI : LtN x w.heap.size := ⟨h.bx.lt⟩
  haveI : LtN b w.heap.size := ⟨h.fz.lt⟩
  obtain ⟨q, hq⟩ : ∃ q, q = (m.rw k).due := ⟨_, rfl⟩
  have hq8 : q ≤ 8 := by unfold Rw.due at hq; omega
  have hql : q ≤ (m.rw k).bx.length := by unfold Rw.due at hq; omega
  have TD : Hid (∀ W, Below w.heap.size w W → Calls Tryz.prog 46 #[sndV (m.rw k).ba A (m.rw k).bx.length c'] W (RetZ W q)) := hide (fun W hW => by
    have := due7_s (m.rw k).ba A c' ds W (hds.rd.step hW) (by have := hok.bl; omega) hok.b0 (by have := hok.bm; omega) (fun d hd => hok.bb _ (by rw [← hmap]; exact List.mem_map_of_mem hd))
    rw [hl] at this
    rw [hq]
    exact this)
  have HOK := hide hok
  have HDS := hide hds
  have HMAP := hide hmap
  have HL := hide hl
  have HQ := hide hq
  have hb0 := hok.b0
  have hbm := hok.bm
  have hbl := hok.bl
  have i0 : (0 : Int) ≤ (k : Int) := by omega
  have i1 : (k : Int) < 11 := by omega
  clear h h9 hds hmap hcl hok hk hq hl
  go_enter Tryz.func52, Tryz.ntmps52
  go_wp2_with fail
  go_loopw [9, 7] (fun i v wr => ∃ (j : Nat) (ps : List Pm), j ≤ q ∧ i = .int .i64 j ∧ PmG (w.heap.size + 1) wr v ps ∧ ps.map Pm.x = m.dueK k (m.rw k) above j ∧ Below w.heap.size w wr ∧ BoxAt wr w.heap.size #[.int .u64 (m.rw k).ba, .slice A (m.rw k).bx.length c'] 68) (fun i _ _ => q - (intOf i).toNat)
  case atStart => exact ⟨0, [], by omega, rfl, PmG.nil _ _, rfl, blw, inferInstance⟩
  case round =>
    obtain ⟨j, ps, hj, rfl, hp, hm, hB, hbx⟩ := hrel
    obtain ⟨A5, c5, rfl, _, _⟩ := own_slice hp.row
    haveI : Blw w wr := ⟨hB⟩
    haveI := hbx
    have hz0 := hbx.lt
    haveI : LtN w.heap.size wr.heap.size := ⟨hz0⟩
    haveI : LeN w.heap.size wr.heap.size := ⟨by omega⟩
    have HP := hide hp
    have HM := hide hm
    have HB := hide hB
    have HR := hide (HE.out.below (HB.out.mono (Nat.le_refl _)))
    haveI := HR.out.bx
    have hpl : ps.length ≤ 8 := by
      have h1 := congrArg List.length hm
      rw [List.length_map] at h1
      have := dueK_len m k (m.rw k) above j
      omega
    clear hp hm hB hbx
    by_cases hlt : j < q
    · have e1 : decide ((j : Int) < (q : Int)) = true := decide_eq_true (by omega)
      have e1n : decide (j < q) = true := decide_eq_true hlt
      have hw1 : IntKind.u64.wrap (j : Int) = (j : Int) := IntWalk.u64_in _ (by omega)
      have hw2 : IntKind.u64.wrap ((m.rw k).ba + (j : Int)) = (m.rw k).ba + (j : Int) := IntWalk.u64_in _ (by omega)
      have hw3 : IntKind.u64.wrap ((m.rw k).ba + (j : Int) + 1) = (m.rw k).ba + (j : Int) + 1 := IntWalk.u64_in _ (by omega)
      have HSQ : Hid ((m.rw k).ba + (j : Int) + 1 = (m.rw k).ba + 1 + j) := hide (by omega)
      by_cases ha : above < (m.rw k).ba + (j : Int) + 1
      · have e2 : decide (above < (m.rw k).ba + (j : Int) + 1) = true := decide_eq_true ha
        have HA := hide ha
        clear ha
        obtain ⟨bA, oA, p, rfl, hbA, hpp, g1⟩ := HDS.out.rd.r.atBd (k := j) (by have := HL.out; omega)
        haveI : CellAt wr bA (oA + j) (.slice p.A p.bs.length p.c) := ⟨Nat.lt_of_lt_of_le hbA HB.out.size, (HB.out.cell (p := ⟨bA, oA + j, none⟩) hbA).trans g1⟩
        haveI : LtN bA w.heap.size := ⟨hbA⟩
        obtain ⟨_, _, _, _, h9, _⟩ := HR.out.ro k (by omega)
        rw [rwR_oth HK.out] at h9
        haveI := h9.c0
        have hpm := List.mem_of_getElem? hpp
        have HPB : Hid ((m.rw k).bx.getD j [] = p.bs) := hide (by rw [← HMAP.out, List.getD_eq_getElem?_getD, List.getElem?_map, hpp]; rfl)
        have HBR : Hid (Reads wr wr.heap.size 1 p.A p.bs.length (bcs p.bs)) := hide ((HDS.out.rd.step HB.out).b p hpm)
        have hpl3 : p.bs.length ≤ 1000000 := by have := (HOK.out.bb p.bs (by rw [← HMAP.out]; exact List.mem_map_of_mem hpm)).2; omega
        have TDa : Hid (∀ W HA, Below wr.heap.size wr W → Calls Tryz.prog 47 #[.pointer (some ⟨x, 0, none⟩), .slice p.A p.bs.length p.c, .slice HA 1 1] W (RetDr W m.n m.i HA 1 1 p.bs)) := hide (fun W HA hW => data16r_s W (HR.out.below hW) p.A p.c p.bs HA 1 1 ((HBR.out.below hW).more hW.size) hpl3)
        have j0 : (0 : Int) ≤ (j : Int) := by omega
        have j1 : (j : Int) < ((m.rw k).bx.length : Int) := by omega
        clear hpp g1 hpm hbA h9
        go_upto_region 8 with (go_at_call 46; (with_reducible refine (TD.out _ blw).mono ?_); rintro e w1 ⟨rfl, hb1⟩; haveI : Stp _ w1 := ⟨hb1⟩; have z1 := hb1.size; clear hb1)
        go_region_held3 (fun w' => w'.cell? ⟨w.heap.size, 1, none⟩ = some (.slice (some ⟨bA, oA, none⟩) (m.rw k).bx.length c') ∧ w'.cell? ⟨bA, oA + j, none⟩ = some (.slice p.A p.bs.length p.c) ∧ w'.cell? ⟨x, 2, none⟩ = some (.slice (some ⟨b, 0, none⟩) 11 c) ∧ w'.cell? ⟨b, k * 9, none⟩ = some (.int .u64 (m.rw k).cn)) ((refine ⟨?_, ?_, ?_, ?_⟩ <;> (first | (rw [cell?_box]; rfl) | exact CellAt.h)))
          (first
            | (go_at_call 47; (with_reducible refine (TDa.out _ _ blw).mono ?_); rintro e w3 ⟨A3, c3, rfl, ho3, hb3⟩; haveI : Stp _ w3 := ⟨hb3⟩; have HO3 := hide ho3; clear ho3 hb3)
            | (refine step_append_x Tryz.okPm rfl (.tmp 34) (.tmp 54) rfl (w.heap.size + 1) (.slice A5 ps.length c5) ps.length (pms ps) 1 (pms [⟨⟨2, m.n, m.i, 8, [⟨k, (m.rw k).cn, (m.rw k).ba + (j : Int) + 1, 0⟩], p.bs, 0, 0, 0, []⟩, some ⟨w1.heap.size, 0, none⟩, 1, A3, c3⟩]) ?_ ?_ ?_ ?_ ?_ ?_ ?_ ?_; go_must ((focus (first | rfl | (simp [Act.eval, Act.put]; done))); (focus (exact own_tc HP.out.row)); (focus (refine ⟨_, _, by first | rfl | (simp [Act.eval, Act.put]; done), ?_⟩; exact reads_pm1x _ _ (⟨⟨2, m.n, m.i, 8, [⟨k, (m.rw k).cn, (m.rw k).ba + (j : Int) + 1, 0⟩], p.bs, 0, 0, 0, []⟩, some ⟨w1.heap.size, 0, none⟩, 1, A3, c3⟩ : Pm))); (focus (exact pms_one _)); (focus (unfold maxLen; omega)); (focus omega); (focus (first | omega | (simp; done) | (simp; omega) | exact blw.size | exact BoxAt.lt (n := w.heap.size) inferInstance)); intro v7 w7 ho7 hg7 ha7; haveI : StpB (w.heap.size + 1) _ w7 := ⟨grown_belowT hg7 (Nat.le_trans (show w.heap.size + 1 ≤ w1.heap.size by omega) (Blw.size (a := w1) inferInstance)) (fun q hq => (HP.out.row.lt q hq).1)⟩; have O7 := hide (PmG.app (p := ⟨⟨2, m.n, m.i, 8, [⟨k, (m.rw k).cn, (m.rw k).ba + (j : Int) + 1, 0⟩], p.bs, 0, 0, 0, []⟩, some ⟨w1.heap.size, 0, none⟩, 1, A3, c3⟩) (HP.out.step blw) ho7 hg7 ha7 ((pm_mk (W := w3) (hb := w1.heap.size) (d := ⟨k, (m.rw k).cn, (m.rw k).ba + (j : Int) + 1, 0⟩) (inferInstance : BoxAt w3 w1.heap.size #[.int .i64 k, .int .u64 (m.rw k).cn, .int .u64 ((m.rw k).ba + (j : Int) + 1), .int .u64 0] 93) (fun i hi => Nat.lt_of_lt_of_le (HP.out.row.lt i (mem_ownL.1 hi)).2 z1) (by omega) HO3.out (by simp)).tr (.bel blw))); clear ho7 hg7 ha7))
            | fail)
        all_goals
          go_wp2_with fail
          go_roundw
          case rel => exact ⟨j + 1, _, by omega, by go_num, O7.out, by rw [List.map_append, HM.out, dueK_yes (by have := HA.out; have := HSQ.out; omega), HPB.out]; unfold En.data; rw [← HSQ.out]; rfl, blw, inferInstance⟩
          case measure => simp [intOf]; omega
      · have e2 : decide (above < (m.rw k).ba + (j : Int) + 1) = false := decide_eq_false ha
        have HA := hide ha
        clear ha
        go_wp2_with (go_at_call 46; (with_reducible refine (TD.out _ blw).mono ?_); rintro e w1 ⟨rfl, hb1⟩; haveI : Stp _ w1 := ⟨hb1⟩; clear hb1)
        go_roundw
        case rel => exact ⟨j + 1, ps, by omega, by go_num, HP.out.step blw, by rw [HM.out, dueK_no (by have := HA.out; have := HSQ.out; omega)], blw, inferInstance⟩
        case measure => simp [intOf]; omega
    · have hjq : j = q := by omega
      subst hjq
      have e1 : decide ((j : Int) < (j : Int)) = false := decide_eq_false (by omega)
      go_wp2_with (go_at_call 46; (with_reducible refine (TD.out _ blw).mono ?_); rintro e w1 ⟨rfl, hb1⟩; haveI : Stp _ w1 := ⟨hb1⟩; clear hb1)
      go_ret
      exact ⟨_, ps, rfl, (HP.out.step blw).lo (by omega), by rw [HM.out, HQ.out]; rfl, blw⟩
end
end Go.Proofs.YtniogmefbjfoaaaGreat
