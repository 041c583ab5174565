/-
  Layer 14: contract: fan.Split.
-/
import Derived.Test.YthkkadbgggaenaaFan4
namespace Go.Proofs.Ythkkadbgggaenaa
set_option linter.unusedSimpArgs false
set_option linter.unusedVariables false
set_option linter.unusedSectionVars false
open Go.RowKit Go.Maps

theorem zeroHs (w : World) : (zeroValue 22).run Try.prog w = .ok (.slice none 0 0) w := by kernel_rfl
def partL (hop : Int → Int × Bool) (hs : List Hd) (k : Int) : List Hd := hs.filter fun x => (hop x.d).2 && decide ((hop x.d).1 = k)
theorem partL_snoc (hop : Int → Int × Bool) (hs : List Hd) (x : Hd) (k : Int) : partL hop (hs ++ [x]) k = if (hop x.d).2 = true ∧ (hop x.d).1 = k then partL hop hs k ++ [x] else partL hop hs k := by
  unfold partL
  rw [List.filter_append]
  by_cases h1 : (hop x.d).2 = true
  · by_cases h2 : (hop x.d).1 = k
    · simp [h1, h2]
    · simp [h1, h2]
  · simp [h1]
/-- the next steps of heads, rising, each once -/
def keysL (hop : Int → Int × Bool) (hs : List Hd) : List Int := Lib.compact (sortI ((hs.filter fun x => (hop x.d).2).map fun x => (hop x.d).1))
theorem keysL_spec (hop : Int → Int × Bool) (hs : List Hd) : (keysL hop hs).Pairwise (· < ·) ∧ ∀ k, k ∈ keysL hop hs ↔ ∃ x ∈ hs, (hop x.d).2 = true ∧ (hop x.d).1 = k := by
  obtain ⟨h1, h2⟩ := compactI_spec (sortI_sorted ((hs.filter fun x => (hop x.d).2).map fun x => (hop x.d).1))
  refine ⟨h1, fun k => ?_⟩
  unfold keysL
  rw [h2, sortI_mem, List.mem_map]
  constructor
  · rintro ⟨x, hx, rfl⟩
    obtain ⟨h3, h4⟩ := List.mem_filter.1 hx
    exact ⟨x, h3, h4, rfl⟩
  · rintro ⟨x, h3, h4, rfl⟩
    exact ⟨x, List.mem_filter.2 ⟨h3, h4⟩, rfl⟩
theorem keysL_len (hop : Int → Int × Bool) (hs : List Hd) : (keysL hop hs).length ≤ hs.length := by
  obtain ⟨h1, h2⟩ := keysL_spec hop hs
  have := nodup_len (keysL hop hs) (hs.map fun x => (hop x.d).1) (h1.imp (fun h => by omega)) (fun x hx => by
    obtain ⟨y, h3, _, h5⟩ := (h2 x).1 hx
    exact List.mem_map.2 ⟨y, h3, h5⟩)
  rwa [List.length_map] at this
theorem part_key (hop : Int → Int × Bool) (hs : List Hd) (k : Int) : k ∈ keysL hop hs ↔ 0 < (partL hop hs k).length := by
  rw [(keysL_spec hop hs).2 k, List.length_pos_iff_exists_mem]
  constructor
  · rintro ⟨x, h1, h2, h3⟩
    exact ⟨x, List.mem_filter.2 ⟨h1, by rw [h2, h3]; simp⟩⟩
  · rintro ⟨x, hx⟩
    obtain ⟨h1, h2⟩ := List.mem_filter.1 hx
    simp only [Bool.and_eq_true, decide_eq_true_eq] at h2
    exact ⟨x, h1, h2.1, h2.2⟩
theorem GM.key {W : World} {bm base n : Nat} {f : Value → Option Value} {hop : Int → Int × Bool} {hs : List Hd} (h : GM W bm base n f (partL hop hs)) (k : Int) : k ∈ keysL hop hs ↔ (f (.int .i64 k)).isSome = true := by
  rw [part_key]
  cases hf : f (.int .i64 k) with
  | none => rw [h.no k hf]; simp
  | some v => simp [(h.own k v hf).1]
/-- fans in memory: their cells -/
def fvc (x : Int × Value) : List Value := [.int .i64 x.1, x.2]
def fvs (l : List (Int × Value)) : List Value := l.flatMap fvc
theorem fvs_app (l m : List (Int × Value)) : fvs (l ++ m) = fvs l ++ fvs m := List.flatMap_append
theorem Try.okFn : ElemOk Try.prog 25 36 2 32 := elemOk_of (.agg #[.int .i64 0, .slice none 0 0]) Try.underlying25 (by kernel_rfl) rfl (by omega)
theorem fv_one (k : Int) (A : Option Addr) (n c : Nat) : ∀ u ∈ fvs [(k, .slice A n c)], u.oneCell' = true := by
  intro u hu
  simp [fvs, fvc] at hu
  rcases hu with rfl | rfl <;> rfl
theorem reads_f1x (W : World) (m : Nat) (k : Int) (v : Value) [h : BoxAt W m #[.int .i64 k, v] 36] : Reads W W.heap.size 2 (some ⟨m, 0, none⟩) 1 (fvs [(k, v)]) :=
  ⟨rfl, fun _ => ⟨_, _, rfl, h.lt, fun j u hu => by
    match j, hu with
    | 0, hu => simp [fvs, fvc] at hu; subst hu; rw [cell?_box]; rfl
    | 1, hu => simp [fvs, fvc] at hu; subst hu; rw [cell?_box]; rfl
    | j + 2, hu => simp [fvs, fvc] at hu⟩⟩
/-- fans of one's own: from block B on -/
def FanO (W : World) (B : Nat) (v : Value) (F : List (Int × List Hd)) : Prop := ∃ X : List (Int × Value), X.map (·.1) = F.map (·.1) ∧ W.ownsRow B 36 2 v F.length (fvs X) ∧ ∀ (j : Nat) (x : Int × Value) (f : Int × List Hd), X[j]? = some x → F[j]? = some f → W.ownsRow B 29 4 x.2 f.2.length (hcs f.2)
def splitL (hop : Int → Int × Bool) (hs : List Hd) : List (Int × List Hd) := (keysL hop hs).map fun k => (k, partL hop hs k)
section
variable (fn : Nat) (caps : Array Value) (C : List Nat) (hs : List Hd) (hop : Int → Int × Bool) (I : Nat → World → Prop)
set_option maxRecDepth 100000 in
set_option maxHeartbeats 4000000 in
theorem split_s (A : Option Addr) (c : Nat) (w : World) (h : Reads w w.heap.size 4 A hs.length (hcs hs)) (hl : hs.length ≤ 100000) (hwf : ∀ x ∈ hs, wfI (hop x.d).1) (hC : ∀ i ∈ C, i < w.heap.size)
    (hkeep : ∀ k X W, I k X → (∀ i, i < w.heap.size → W.heap[i]? = X.heap[i]?) → X.heap.size ≤ W.heap.size → I k W)
    (hcall : ∀ k x W, hs[k]? = some x → I k W → w.heap.size ≤ W.heap.size → Calls Try.prog fn (#[.int .i64 x.d] ++ caps) W fun e W' => e = .returned (.tuple #[.int .i64 (hop x.d).1, .bool (hop x.d).2]) ∧ I (k + 1) W' ∧ Gro C W W')
    (h0 : I 0 w) (hent : ∀ args W, (callFunc fn args).run Try.prog W = .ok (.enter fn args) W) :
    Calls Try.prog 12 #[.slice A hs.length c, .func (.func fn) #[] caps] w (fun e W' => ∃ v, e = .returned v ∧ FanO W' w.heap.size v (splitL hop hs) ∧ I hs.length W' ∧ Gro C w W') := by
  have hmm := @run_makeMap Try.prog
  have hnf : ∀ W, Sem.run Try.prog (binOp BinOp.eql 32 (.func (.func fn) #[] caps) .nilFunc) W = .ok (.bool false) W := fun W => by first | rfl | (simp [go_sem]; done) | kernel_rfl
  have TC := hide (fun A c W (h : Reads W W.heap.size 4 A hs.length (hcs hs)) => cloneH_s A c hs W h (by omega))
  have HC := hide hC
  have HK := hide hkeep
  have HCALL := hide hcall
  have HWF := hide hwf
  have HI := hide h0
  haveI : Src w A hs.length 4 (hcs hs) := ⟨h⟩
  clear h hC hkeep hcall hwf h0
  go_enter Try.func12, Try.ntmps12
  go_wp2_with fail
  (with_reducible refine (TC.out _ _ _ src).mono ?_)
  rintro e w2 ⟨v2, rfl, ho2, hb2⟩
  have z2 : w.heap.size < w2.heap.size := by have := hb2.size; simp at this; omega
  obtain ⟨A2, c2, rfl, _, _⟩ := own_slice ho2
  have HO2 := hide ho2
  have HB2 := hide hb2
  have G2 := hide ((gm_made w w2.heap.size z2).below hb2)
  have HW2 : Hid (∀ i, i < w.heap.size → w2.heap[i]? = w.heap[i]?) := hide (fun i hi => (hb2.block i (by simp; omega)).trans (Below.heap_alloc _ _ i hi))
  clear TC ho2 hb2
  go_wp2_with fail
  go_loopw [19] (fun j wr => ∃ (m n : Nat) (f : Value → Option Value), m ≤ hs.length ∧ j = .int .i64 m ∧ n ≤ m ∧ GM wr w.heap.size w2.heap.size n f (partL hop (hs.take m)) ∧ I m wr ∧ Gro (w.heap.size :: C) w2 wr) (fun j _ => hs.length - (intOf j).toNat)
  case atStart => exact ⟨0, 0, _, Nat.zero_le _, rfl, Nat.le_refl _, G2.out, HK.out 0 w w2 HI.out HW2.out (by omega), Gro.refl _ _⟩
  case round =>
    obtain ⟨m, n, f, hm, rfl, hn, hG, hI, hK⟩ := hrel
    have HG := hide hG
    have HIm := hide hI
    have HKr := hide hK
    have zr := hK.size
    have ho : wr.ownsRow (w.heap.size + 1) 29 4 (.slice A2 hs.length c2) hs.length (hcs hs) := own_gro (by have := HO2.out; rwa [World.size_alloc] at this) hK (by
      intro i hi
      rcases List.mem_cons.1 hi with rfl | hi
      · omega
      · have := HC.out i hi; omega)
    have HR := hide (Reads.of_own ho)
    clear hG hI hK ho
    by_cases hlt : m < hs.length
    · obtain ⟨b, off, p, rfl, hb, hp, g1, g2, g3, g4⟩ := HR.out.at4 hlt
      have HP := hide hp
      haveI : InW b wr := ⟨hb⟩
      have i0 : (0 : Int) ≤ (m : Int) := by omega
      have i1 : (m : Int) < (hs.length : Int) := by omega
      clear hp
      go_wp2_with fail
      have hX : ∀ i, i < w.heap.size → (wr.alloc (.cells #[.int .i64 p.d, .int .u64 p.c, .int .u64 p.s, .int .u64 p.i] 29)).heap[i]? = wr.heap[i]? := fun i hi => Below.heap_alloc _ _ i (by omega)
      refine (HCALL.out m p _ HP.out (HK.out m wr _ HIm.out hX (by simp)) (by simp; omega)).mono ?_
      rintro e w3 ⟨rfl, hI3, hG3⟩
      have hz3 := hG3.size
      simp only [World.size_alloc] at hz3
      haveI : BoxAt w3 wr.heap.size #[.int .i64 p.d, .int .u64 p.c, .int .u64 p.s, .int .u64 p.i] 29 := ⟨(hG3.blk _ (by simp) (fun hm => by have := HC.out _ hm; omega)).trans (boxTop wr _ _).eq⟩
      have G3 := hide ((HG.out.below (below_alloc wr _)).gro hG3 HC.out)
      have HI3 := hide hI3
      have HK3 := hide (HKr.out.trans ((Gro.of (below_alloc wr _)).trans (hG3.mono (fun i hi => List.mem_cons_of_mem _ hi))))
      clear hI3 hG3 HKr HIm HG hX
      cases hb2 : (hop p.d).2
      · have HPL := hide (show partL hop (hs.take m) = partL hop (hs.take (m + 1)) by
          funext k
          rw [take_succ_of HP.out, partL_snoc, if_neg (by rw [hb2]; simp)])
        go_wp2
        go_roundw
        case rel => exact ⟨m + 1, n, f, by omega, by go_num, by omega, by rw [← HPL.out]; exact G3.out, HI3.out, HK3.out⟩
        case measure => simp [intOf]; omega
      · have hw := HWF.out p (List.mem_of_getElem? HP.out)
        have HPL := hide (show (fun j => if j = (hop p.d).1 then partL hop (hs.take m) (hop p.d).1 ++ [p] else partL hop (hs.take m) j) = partL hop (hs.take (m + 1)) by
          funext k
          rw [take_succ_of HP.out, partL_snoc, hb2]
          by_cases e : k = (hop p.d).1
          · subst e; simp
          · rw [if_neg e, if_neg (by simp; exact fun h => e h.symm)])
        have hpl : (partL hop (hs.take m) (hop p.d).1).length ≤ m := Nat.le_trans (List.length_filter_le _ _) (by rw [List.length_take]; omega)
        generalize (hop p.d).1 = kk at hw HPL hpl
        have z3 := HK3.out.size
        go_wp2_with (first
          | (at_lookup; go_must (refine wpList_look_f (by rfl) (.tmp 33) (.tmp 34) (by rfl) Try.lawI Try.underlying117 (by rfl) (by rfl) G3.out.mp (zeroHs _) (keyI hw) ?_))
          | (at_builtin; go_must (refine wpList_append_any _ Try.okHd (by rfl) (.tmp 35) (.tmp 37) (by rfl) w2.heap.size ((f (.int .i64 kk)).getD (.slice none 0 0)) (partL hop (hs.take m) kk).length (hcs (partL hop (hs.take m) kk)) (by rfl) (own_tc (G3.out.at kk)) _ (some ⟨w3.heap.size, 0, none⟩) 1 1 (hcs [p]) (by rfl) (reads_h1x _ _ p) (hc_one _) (by unfold maxLen; omega) (by omega) (by simp; omega) ?_); intro v5 w5 ho5 hg5 hn5 ha5; go_must (have HO5 := hide ho5; have HG5 := hide hg5; have HA5 := hide ha5; have HM5 := hide ((G3.out.below (below_alloc w3 _)).mp.kept hg5 (fun e => (G3.out.row_ne kk) e.symm)); clear ho5 hg5 hn5 ha5))
          | (at_mapUpdate; go_must (refine wpList_store_f (by rfl) (.tmp 31) (.tmp 32) (.tmp 38) (by rfl) Try.lawI Try.underlying117 (by rfl) (by rfl) (by rfl) HM5.out (by unfold maxLen; omega) (keyI hw) ?_); intro w6 hm6 hg6)
          | fail)
        have G6 := hide ((G3.out.below (below_alloc w3 _)).put HO5.out HG5.out HA5.out hm6 hg6)
        rw [HPL.out] at G6
        have hlow : ∀ i, i < w2.heap.size → i ≠ w.heap.size → w6.heap[i]? = w3.heap[i]? := fun i hi hne => by
          have s5 := HG5.out.size
          simp only [World.size_alloc] at s5
          rw [hg6.block i (by omega) (fun e => hne (by injection e)), HG5.out.block i (by simp; omega) (fun e => by
            obtain h | ⟨g, h, hg, _⟩ := G3.out.row_ge kk
            · rw [h] at e; cases e
            · rw [h] at e; injection e with e; omega), Below.heap_alloc _ _ i (by omega)]
        have s6 : w3.heap.size ≤ w6.heap.size := by
          have s5 := HG5.out.size
          have := hg6.size
          simp only [World.size_alloc] at s5
          omega
        have HI6 := hide (HK.out (m + 1) w3 w6 HI3.out (fun i hi => hlow i (by omega) (by omega)) s6)
        have HK6 : Hid (Gro (w.heap.size :: C) w2 w6) := hide ⟨hg6.os.trans (HG5.out.os.trans HK3.out.os), hg6.tape.trans (HG5.out.tape.trans HK3.out.tape), hg6.output.trans (HG5.out.output.trans HK3.out.out), by omega, fun i hi hn => (hlow i hi (fun e => hn (by rw [e]; simp))).trans (HK3.out.blk i hi hn)⟩
        clear hm6 hg6 hlow HO5 HG5 HA5 HM5
        go_wp2
        go_roundw
        case rel => exact ⟨m + 1, n + 1, _, by omega, by go_num, by omega, G6.out, HI6.out, HK6.out⟩
        case measure => simp [intOf]; omega
    · obtain rfl : m = hs.length := by omega
      have G7 := hide (show GM wr w.heap.size w2.heap.size n f (partL hop hs) by have := HG.out; rwa [List.take_length] at this)
      have hst := (keysL_spec hop hs).1
      have hkl := keysL_len hop hs
      have hkw : ∀ x ∈ keysL hop hs, wfI x := fun x hx => by
        obtain ⟨y, h1, _, rfl⟩ := ((keysL_spec hop hs).2 x).1 hx
        exact HWF.out y h1
      have TK := hide (sortedM_s G7.out.mp (by omega) (keysL hop hs) hst hkw (fun k => G7.out.key k))
      have HKW := hide hkw
      generalize hks : keysL hop hs = ks at TK hkl HKW
      have HKS := hide hks
      clear hst hkw hks HG
      go_wp2_with fail
      (with_reducible refine (keys_s _ _).mono ?_)
      rintro e w7 ⟨rfl, rfl⟩
      go_wp2_with fail
      (with_reducible refine TK.out.mono ?_)
      rintro e w8 ⟨v8, rfl, ho8, hb8⟩
      obtain ⟨A8, c8, rfl, _, _⟩ := own_slice ho8
      have z8 := hb8.size
      simp only [World.size_alloc] at z8
      have zr2 := HKr.out.size
      have h78 : ∀ i, i < wr.heap.size → w8.heap[i]? = wr.heap[i]? := fun i hi => (hb8.block i (by simp; omega)).trans (Below.heap_alloc _ _ i hi)
      have G8 := hide ((G7.out.below (below_alloc _ _)).below hb8)
      have HI8 := hide (HK.out _ wr w8 HIm.out (fun i hi => h78 i (by omega)) (by omega))
      have HL8 : Hid (Gro C w w8) := hide ⟨hb8.os.trans (HKr.out.os.trans HB2.out.os), hb8.tape.trans (HKr.out.tape.trans HB2.out.tape), hb8.output.trans (HKr.out.out.trans HB2.out.output), by omega, fun i hi hn => (h78 i (by omega)).trans ((HKr.out.blk i (by omega) (fun hm => by
        rcases List.mem_cons.1 hm with e | hm
        · omega
        · exact hn hm)).trans (HW2.out i hi))⟩
      have HR8 := hide (Reads.of_own ho8)
      clear ho8 hb8 h78 G7 TK HIm HKr
      go_wp2_with fail
      go_loopw [44, 10] (fun j v wr => ∃ (m : Nat) (X : List (Int × Value)), m ≤ ks.length ∧ j = .int .i64 m ∧ X = (ks.take m).map (fun k => (k, (f (.int .i64 k)).getD (.slice none 0 0))) ∧ wr.ownsRow w8.heap.size 36 2 v m (fvs X) ∧ Below w8.heap.size w8 wr) (fun j _ _ => ks.length - (intOf j).toNat)
      case atStart => exact ⟨0, [], Nat.zero_le _, rfl, by simp, World.ownsRow_nil _ _ _ _, Below.refl _ _⟩
      case round =>
        obtain ⟨q, X, hq, rfl, hX, ho, hBq⟩ := hrel
        obtain ⟨A9, c9, rfl, _, _⟩ := own_slice ho
        have HX := hide hX
        have HO9 := hide ho
        have HBq := hide hBq
        haveI : Blw w8 wr := ⟨hBq⟩
        have zq := hBq.size
        have GQ := hide (G8.out.below hBq)
        clear hX ho hBq
        by_cases hlt2 : q < ks.length
        · obtain ⟨b, off, rfl, hb, hc⟩ := HR8.out.2 (by omega)
          have g1 := (HBq.out.cell (p := ⟨b, off + q, none⟩) hb).trans (hc q (.int .i64 ks[q]) (by simp [ics, hlt2]))
          haveI : InW b wr := ⟨by omega⟩
          have hkk : ks[q]? = some ks[q] := List.getElem?_eq_getElem hlt2
          have hw := HKW.out ks[q] (List.getElem_mem hlt2)
          have HTS := hide (show (ks.take (q + 1)).map (fun k => (k, (f (.int .i64 k)).getD (.slice none 0 0))) = X ++ [(ks[q], (f (.int .i64 ks[q])).getD (.slice none 0 0))] by rw [take_succ_of hkk, List.map_append, HX.out]; rfl)
          generalize ks[q] = kk at g1 hw HTS
          obtain ⟨A5, c5, hv5, _, _⟩ := own_slice (GQ.out.at kk)
          have HV5 := hide hv5
          have i0 : (0 : Int) ≤ (q : Int) := by omega
          have i1 : (q : Int) < (ks.length : Int) := by omega
          clear hc hkk hv5
          go_wp2_with (first
            | (at_lookup; go_must (refine wpList_look_f (by rfl) (.tmp 50) (.tmp 51) (by rfl) Try.lawI Try.underlying117 (by rfl) (by rfl) GQ.out.mp (zeroHs _) (keyI hw) ?_; rw [HV5.out]))
            | (at_builtin; go_must (refine wpList_append_w Try.okFn (by rfl) (.tmp 48) (.tmp 54) (by rfl) w8.heap.size (.slice A9 q c9) q (fvs X) 1 (fvs [(kk, .slice A5 (partL hop hs kk).length c5)]) (by rfl) (own_tc HO9.out) ⟨_, _, by rfl, reads_f1x _ _ _ _⟩ (fv_one _ _ _ _) (by unfold maxLen; omega) (by omega) (by simp; omega) ?_); intro v10 w10 ho10 hg10; go_must (have HO10 := hide ho10; have HB10 := hide (((HBq.out.trans ((below_alloc wr _).mono zq))).trans (grown_belowT (B := w8.heap.size) hg10 (by simp; omega) (fun k hk => (HO9.out.lt k hk).1))); clear ho10 hg10))
            | fail)
          go_wp2
          go_roundw
          case rel => exact ⟨q + 1, X ++ [(kk, .slice A5 (partL hop hs kk).length c5)], by omega, by go_num, by rw [HTS.out, HV5.out], by rw [fvs_app]; exact HO10.out, HB10.out⟩
          case measure => simp [intOf]; omega
        · obtain rfl : q = ks.length := by omega
          go_wp2
          go_ret
          refine ⟨_, rfl, ⟨X, ?_, ?_, ?_⟩, HK.out _ w8 wr HI8.out (fun i hi => HBq.out.block i (by omega)) zq, HL8.out.trans (Gro.of HBq.out)⟩
          · rw [HX.out, List.take_length, splitL, HKS.out]; simp
          · rw [splitL, HKS.out, List.length_map]; exact own_base HO9.out (by omega)
          · intro j x fx hx hfx
            rw [HX.out, List.take_length, List.getElem?_map] at hx
            rw [splitL, HKS.out, List.getElem?_map] at hfx
            cases hkj : ks[j]? with
            | none => rw [hkj] at hx; cases hx
            | some k =>
              rw [hkj] at hx hfx
              simp only [Option.map_some, Option.some.injEq] at hx hfx
              subst hx hfx
              exact own_base (GQ.out.at k) (by omega)
end
end Go.Proofs.Ythkkadbgggaenaa
