/-
  The reference's writers: contracts: Uint, Bytes of layer 3.
-/
import Derived.Test.YtggmninbpnolgaaGreatWt
import Derived.Test.YtggmninbpnolgaaGreatMeet
namespace Go.Proofs.YtggmninbpnolgaaGreat
set_option linter.unusedSimpArgs false
set_option linter.unusedVariables false
set_option linter.unusedSectionVars false
open Go.RowKit

/-- bytes in new memory -/
def RetY (w : World) (bs : List Int) (e : Ending) (w' : World) : Prop := ∃ v, e = .returned v ∧ OwnB w' w.heap.size v bs ∧ Below w.heap.size w w'
/-- while bytes are laid one behind the other -/
structure YB (w : World) (v : Value) (bs : List Int) (W : World) : Prop where
  oa : OwnB W w.heap.size v bs
  hB : Below w.heap.size w W
theorem YB.nil (w : World) : YB w (.slice none 0 0) [] w := ⟨World.ownsRow_nil _ _ _ _, Below.refl _ _⟩
theorem YB.below {w W W' : World} {v : Value} {bs : List Int} (h : YB w v bs W) (hb : Below W.heap.size W W') : YB w v bs W' := ⟨own_below h.oa hb (Nat.le_refl _), below_step h.hB hb⟩
theorem YB.app {w W W' : World} {v v' : Value} {bs cs : List Int} (h : YB w v bs W) (ho : W'.ownsRow w.heap.size 5 1 v' (bs.length + cs.length) (bcs bs ++ bcs cs)) (hg : W.grownBy W' v.ownBlock) : YB w v' (bs ++ cs) W' := by
  refine ⟨?_, h.hB.grown hg h.hB.size (fun k hk => (h.oa.lt k hk).1)⟩
  rw [OwnB, List.length_append, bcs_app]; exact ho
theorem reads_b1 (w : World) (x : Int) (m : Nat) (hm : w.heap.size = m) : Reads (w.alloc (.cells #[.int .u8 x] 5)) (w.alloc (.cells #[.int .u8 x] 5)).heap.size 1 (some ⟨m, 0, none⟩) 1 (bcs [x]) := by
  subst hm
  exact ⟨rfl, fun _ => ⟨_, _, rfl, by simp, fun j u hu => by
    cases j with
    | zero => simp [bcs] at hu; subst hu; simp
    | succ j => simp [bcs] at hu⟩⟩
set_option maxRecDepth 100000 in
set_option maxHeartbeats 1000000 in
theorem refUint_s (x : Int) (w : World) (h : wfU64 x) : Calls Tryz.prog 55 #[.int .u64 x] w (RetY w (uintB x)) := by
  obtain ⟨h0, h1⟩ := h
  go_enter Tryz.func55, Tryz.ntmps55
  go_wp2
  go_loopw [0, 3] (fun y v wr => ∃ (f : Nat) (Y : Int) (cs : List Int), y = .int .u64 Y ∧ f ≤ 9 ∧ 0 ≤ Y ∧ Y < 128 ^ f * 2 ∧ cs.length + f = 9 ∧ uintB x = cs ++ uintF f Y ∧ YB w v cs wr) (fun y _ _ => (intOf y).toNat)
  case atStart => exact ⟨9, x, [], rfl, by omega, h0, by omega, rfl, rfl, YB.nil w⟩
  case round =>
    obtain ⟨f, Y, cs, rfl, hf, hY0, hY1, hcf, hu, V⟩ := hrel
    obtain ⟨A, c, rfl, _, _⟩ := own_slice V.oa
    have HU := hide hu
    have HV := hide V
    have HY1 := hide hY1
    have hsz := V.hB.size
    have HC := hide hcf
    have hcl : cs.length ≤ 9 := by omega
    have hY2 : Y ≤ 18446744073709551615 := by
      have e : (128 : Nat) ^ f ≤ 128 ^ 9 := Nat.pow_le_pow_right (by omega) hf
      have e' : (128 : Int) ^ f ≤ 128 ^ 9 := by exact_mod_cast e
      omega
    clear hu V hY1 h1 hcf
    by_cases hlt : Y < 128
    · have hlt' : ¬ 128 ≤ Y := by omega
      have hm : Y % 256 = Y := by omega
      have H := hide (show uintB x = cs ++ [Y] by
        have e1 : uintF f Y = [Y] := by cases f <;> simp [uintF, hlt]
        rw [HU.out, e1])
      go_wp2_with (at_builtin; go_must (refine wpList_append_any _ Tryz.okB (by rfl) (.tmp 15) (.tmp 18) (by rfl) w.heap.size (.slice A cs.length c) cs.length (bcs cs) (by rfl) (HV.out.below (below_alloc _ _)).oa _ (some ⟨wr.heap.size, 0, none⟩) 1 1 (bcs [Y]) (by rfl) (reads_b1 wr Y _ rfl) (bcs_one _) (by unfold maxLen; omega) (by omega) (by simp; omega) ?_); intro v5 w5 ho5 hg5 hn5 ha5; go_must (have HV5 := hide ((HV.out.below (below_alloc _ _)).app (cs := [Y]) ho5 hg5)); clear ho5 hg5 hn5 ha5)
      go_ret
      exact ⟨_, rfl, by rw [H.out]; exact HV5.out.oa, HV5.out.hB⟩
    · have hlt' : 128 ≤ Y := by omega
      have hm : (Y % 128 + 128) % 256 = Y % 128 + 128 := by omega
      obtain ⟨f, rfl⟩ : ∃ f', f = f' + 1 := by
        cases f with
        | zero => have := HY1.out; simp at this; omega
        | succ f => exact ⟨f, rfl⟩
      go_wp2_with (at_builtin; go_must (refine wpList_append_any _ Tryz.okB (by rfl) (.tmp 6) (.tmp 11) (by rfl) w.heap.size (.slice A cs.length c) cs.length (bcs cs) (by rfl) (HV.out.below (below_alloc _ _)).oa _ (some ⟨wr.heap.size, 0, none⟩) 1 1 (bcs [Y % 128 + 128]) (by rfl) (reads_b1 wr (Y % 128 + 128) _ rfl) (bcs_one _) (by unfold maxLen; omega) (by omega) (by simp; omega) ?_); intro v5 w5 ho5 hg5 hn5 ha5; go_must (have HV5 := hide ((HV.out.below (below_alloc _ _)).app (cs := [Y % 128 + 128]) ho5 hg5)); clear ho5 hg5 hn5 ha5)
      go_wp2
      go_roundw
      case rel =>
        refine ⟨f, Y / 128, cs ++ [Y % 128 + 128], by go_num, by omega, by omega, div_lt_pow HY1.out, by have := HC.out; simp; omega, ?_, HV5.out⟩
        rw [HU.out, uintF, if_neg (by omega)]; simp
      case measure => simp [intOf]; omega
set_option maxRecDepth 100000 in
set_option maxHeartbeats 1000000 in
theorem refBytes_s (B : Option Addr) (bc : Nat) (l : List Pr) (w : World) (h : Sl w B l) (hn : l.length ≤ 10000) (hw : ∀ p ∈ l, wfU64 p.2) : Calls Tryz.prog 22 #[.slice B l.length bc] w (RetY w (procsB l)) := by
  have HL := hide h
  have HW := hide hw
  clear h hw
  go_enter Tryz.func22, Tryz.ntmps22
  go_wp2
  go_loopw [3, 4] (fun v i wr => ∃ (k : Nat) (bs : List Int), k ≤ l.length ∧ i = .int .i64 k ∧ YB w v bs wr ∧ bs = procsB (l.take k)) (fun _ i _ => l.length - (intOf i).toNat)
  case atStart => exact ⟨0, [], Nat.zero_le _, rfl, YB.nil w, rfl⟩
  case round =>
    obtain ⟨k, bs, hk, rfl, V, hbs⟩ := hrel
    obtain ⟨A, c, rfl, _, _⟩ := own_slice V.oa
    have hbl : bs.length ≤ 110000 := by
      rw [hbs]
      have := procsB_len (l.take k)
      rw [List.length_take] at this; omega
    have HBS := hide hbs
    have HV := hide V
    have hsz := V.hB.size
    clear hbs
    by_cases hlt : k < l.length
    · obtain ⟨b, off, ⟨n, i⟩, rfl, hb, hp, g1, g2⟩ := ((Reads.below HL.out V.hB).more V.hB.size).at2 hlt
      simp only at g1 g2
      have T := hide (fun W => refUint_s i W (HW.out (n, i) (List.mem_of_getElem? hp)))
      have hul := uintB_len i
      have HPk := hide hp
      haveI : InW b wr := ⟨hb⟩
      have i1 : (k : Int) < (l.length : Int) := by omega
      clear V hp
      have hm : IntKind.u64.wrap n % 256 = n % 256 := by (have e : IntKind.u64.wrap n = n % 18446744073709551616 := rfl); rw [e]; omega
      go_wp2_with (at_builtin; go_must (refine wpList_append_any _ Tryz.okB (by rfl) (.tmp 11) (.tmp 19) (by rfl) w.heap.size (.slice A bs.length c) bs.length (bcs bs) (by rfl) (HV.out.below (below_alloc _ _)).oa _ (some ⟨wr.heap.size, 0, none⟩) 1 1 (bcs [n % 256]) (by rfl) (reads_b1 wr (n % 256) _ rfl) (bcs_one _) (by unfold maxLen; omega) (by omega) (by simp; omega) ?_); intro v5 w5 ho5 hg5 hn5 ha5; go_must (have V5 := (HV.out.below (below_alloc _ _)).app (cs := [n % 256]) ho5 hg5); obtain ⟨bs1, hbs1⟩ : ∃ bs1, bs1 = bs ++ [n % 256] := ⟨_, rfl⟩; rw [← hbs1] at V5; have HB1 := hide hbs1; have hl1 : bs1.length = bs.length + 1 := (by rw [hbs1]; simp); obtain ⟨A5, c5, e5, _, _⟩ := own_slice V5.oa; subst e5; have HV5 := hide V5; have HL1 := hide hl1; clear ho5 hg5 hn5 ha5 hbs1 V5 hl1; obtain ⟨_, _, y2, hA, hb2, hp2, _, f2⟩ := ((Reads.below HL.out HV5.out.hB).more HV5.out.hB.size).at2 hlt; rw [HPk.out] at hp2; injection hp2 with hp2; subst hp2; injection hA with hA; injection hA with hA1 hA2; subst hA1 hA2; simp only at f2; haveI : InW b w5 := ⟨hb2⟩; clear g1 g2 hm)
      (with_reducible refine (T.out _).mono ?_)
      rintro e w6 ⟨vU, rfl, hoU, hbU⟩
      obtain ⟨AU, cU, rfl, _, _⟩ := own_slice hoU
      have HV6 := hide (HV5.out.below hbU)
      have HRU := hide (Reads.of_own hoU)
      have hz6 := HV6.out.hB.size
      have hl6 : bs1.length ≤ bs.length + 1 := Nat.le_of_eq HL1.out
      generalize hu : uintB i = ui at HRU hul ⊢
      have HUI := hide hu
      clear hoU hbU T f2 hu HV5
      go_wp2_with (at_builtin; go_must (refine wpList_append_any _ Tryz.okB (by rfl) (.tmp 21) (.tmp 27) (by rfl) w.heap.size (.slice A5 bs1.length c5) bs1.length (bcs bs1) (by rfl) HV6.out.oa _ AU ui.length cU (bcs ui) (by rfl) HRU.out (bcs_one _) (by unfold maxLen; omega) (by omega) (by omega) ?_); intro v7 w7 ho7 hg7 hn7 ha7; go_must (have V7 := HV6.out.app ho7 hg7); have HV7 := hide V7; clear ho7 hg7 hn7 ha7 V7)
      go_wp2
      go_roundw
      case rel => exact ⟨k + 1, bs1 ++ ui, by omega, by go_num, HV7.out, by rw [HB1.out, HBS.out, procsB_take HPk.out, ← HUI.out]⟩
      case measure => simp [intOf]; omega
    · obtain rfl : k = l.length := by omega
      clear V
      go_wp2
      go_ret
      exact ⟨_, rfl, by have := HBS.out; rw [List.take_length] at this; rw [← this]; exact HV.out.oa, HV.out.hB⟩
end Go.Proofs.YtggmninbpnolgaaGreat
