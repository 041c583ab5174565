/-
  The reference of layer 2: contracts: digits, Short, Text.
-/
import Derived.Test.YtggmninbpnolgaaGreatRb
import Derived.Test.YtggmninbpnolgaaGreatTxt
import Derived.Test.YtggmninbpnolgaaGreatTc
import Derived.Test.YtggmninbpnolgaaGreatVget
namespace Go.Proofs.YtggmninbpnolgaaGreat
set_option linter.unusedSimpArgs false
set_option linter.unusedVariables false
set_option linter.unusedSectionVars false
open Go.RowKit

/-- digits to the base 128, the lowest first -/
def digF : Nat → Int → List Int
  | 0, x => [x]
  | f + 1, x => if x < 128 then [x] else x % 128 :: digF f (x / 128)
/-- digits with their marks: all but the last one have 128 more -/
def shB : List Int → List Int
  | [] => []
  | [a] => [a]
  | a :: b :: t => (a + 128) :: shB (b :: t)
theorem digF_pos (f : Nat) (x : Int) : digF f x ≠ [] := by
  cases f with
  | zero => simp [digF]
  | succ f => rw [digF]; split <;> simp
theorem digF_len : ∀ (f : Nat) (x : Int), (digF f x).length ≤ f + 1 := by
  intro f
  induction f with
  | zero => intro x; simp [digF]
  | succ f ih => intro x; rw [digF]; split <;> simp; exact ih _
theorem shB_dig : ∀ (f : Nat) (x : Int), shB (digF f x) = uintF f x := by
  intro f
  induction f with
  | zero => intro x; rfl
  | succ f ih =>
    intro x
    rw [digF, uintF]
    by_cases h : x < 128
    · rw [if_pos h, if_pos h]; rfl
    · rw [if_neg h, if_neg h, ← ih]
      have := digF_pos f (x / 128)
      cases hd : digF f (x / 128) with
      | nil => exact absurd hd this
      | cons a t => rfl
theorem digF_ok : ∀ (f : Nat) (x : Int), 0 ≤ x → x < 128 ^ f * 2 → ∀ d ∈ digF f x, 0 ≤ d ∧ d < 128 := by
  intro f
  induction f with
  | zero => intro x h0 h d hd; simp [digF] at hd; subst hd; simp at h; omega
  | succ f ih =>
    intro x h0 h d hd
    rw [digF] at hd
    split at hd
    · simp at hd; omega
    · rcases List.mem_cons.1 hd with rfl | hd
      · omega
      · exact ih (x / 128) (by omega) (div_lt_pow h) d hd
theorem shB_len : ∀ l : List Int, (shB l).length = l.length
  | [] => rfl
  | [_] => rfl
  | _ :: b :: t => by rw [shB, List.length_cons, shB_len (b :: t)]; rfl
theorem shB_get : ∀ (l : List Int) (k : Nat) (x : Int), l[k]? = some x → (shB l)[k]? = some (if k + 1 < l.length then x + 128 else x)
  | [], k, x, h => by simp at h
  | [a], k, x, h => by
    cases k with
    | zero => simp at h; simp [shB, h]
    | succ k => simp at h
  | a :: b :: t, k, x, h => by
    cases k with
    | zero => simp at h; simp [shB, h]
    | succ k =>
      have := shB_get (b :: t) k x (by simpa using h)
      rw [shB, List.getElem?_cons_succ, this]
      simp
/-- while numbers are laid one behind the other -/
structure YU (w : World) (v : Value) (us : List Int) (W : World) : Prop where
  oa : W.ownsRow w.heap.size 22 1 v us.length (ucs us)
  hB : Below w.heap.size w W
theorem YU.below {w W W' : World} {v : Value} {us : List Int} (h : YU w v us W) (hb : Below W.heap.size W W') : YU w v us W' := ⟨own_below h.oa hb (Nat.le_refl _), below_step h.hB hb⟩
theorem YU.app {w W W' : World} {v v' : Value} {us cs : List Int} (h : YU w v us W) (ho : W'.ownsRow w.heap.size 22 1 v' (us.length + cs.length) (ucs us ++ ucs cs)) (hg : W.grownBy W' v.ownBlock) : YU w v' (us ++ cs) W' := by
  refine ⟨?_, h.hB.grown hg h.hB.size (fun k hk => (h.oa.lt k hk).1)⟩
  rw [List.length_append, ucs_app]; exact ho
theorem YU.one (w : World) (x : Int) : YU w (.slice (some ⟨w.heap.size, 0, none⟩) 1 1) [x] (w.alloc (.cells #[.int .u64 x] 22)) :=
  ⟨World.ownsRow_lit w #[.int .u64 x] 1 (Nat.le_refl _) (by unfold maxLen; omega) rfl, below_alloc _ _⟩
theorem reads_u1 (w : World) (x : Int) (m : Nat) (hm : w.heap.size = m) : Reads (w.alloc (.cells #[.int .u64 x] 22)) (w.alloc (.cells #[.int .u64 x] 22)).heap.size 1 (some ⟨m, 0, none⟩) 1 (ucs [x]) := by
  subst hm
  exact ⟨rfl, fun _ => ⟨_, _, rfl, by simp, fun j u hu => by
    cases j with
    | zero => simp [ucs] at hu; subst hu; simp
    | succ j => simp [ucs] at hu⟩⟩
theorem Reads.atUs {w : World} {B : Nat} {A : Option Addr} {n k : Nat} {l : List Int} (h : Reads w B 1 A n (ucs l)) (hk : k < n) :
    ∃ b off x, A = some ⟨b, off, none⟩ ∧ b < B ∧ l[k]? = some x ∧ w.cell? ⟨b, off + k, none⟩ = some (.int .u64 x) := by
  obtain ⟨b, off, rfl, hb, hc⟩ := h.2 (by omega)
  have hl : k < l.length := by have := h.1; rw [ucs_len] at this; omega
  exact ⟨b, off, l[k], rfl, hb, List.getElem?_eq_getElem hl, hc k _ (by simp [ucs, hl])⟩
/-- numbers in new memory -/
def RetUs (w : World) (us : List Int) (e : Ending) (w' : World) : Prop := ∃ v, e = .returned v ∧ w'.ownsRow w.heap.size 22 1 v us.length (ucs us) ∧ Below w.heap.size w w'
set_option maxRecDepth 100000 in
set_option maxHeartbeats 1000000 in
theorem digits_s (x : Int) (w : World) (h : wfU64 x) : Calls Tryz.prog 56 #[.int .u64 x, .int .u64 128] w (RetUs w (digF 9 x)) := by
  obtain ⟨h0, h1⟩ := h
  go_enter Tryz.func56, Tryz.ntmps56
  go_wp2
  go_loopw [0, 5] (fun y v wr => ∃ (f : Nat) (Y : Int) (cs : List Int), y = .int .u64 Y ∧ f ≤ 9 ∧ 0 ≤ Y ∧ Y < 128 ^ f * 2 ∧ cs.length + f = 9 ∧ digF 9 x = cs ++ digF f Y ∧ YU w v (cs ++ [Y % 128]) wr) (fun y _ _ => (intOf y).toNat)
  case atStart => exact ⟨9, x, [], rfl, by omega, h0, by omega, rfl, rfl, YU.one w _⟩
  case round =>
    obtain ⟨f, Y, cs, rfl, hf, hY0, hY1, hcf, hu, V⟩ := hrel
    obtain ⟨c1, hc1⟩ : ∃ c1, c1 = cs ++ [Y % 128] := ⟨_, rfl⟩
    rw [← hc1] at V
    obtain ⟨A, c, rfl, _, _⟩ := own_slice V.oa
    have HU := hide hu
    have HV := hide V
    have HY1 := hide hY1
    have hsz := V.hB.size
    have HC := hide hcf
    have HC1 := hide hc1
    have hcl : c1.length ≤ 10 := by rw [hc1, List.length_append, List.length_singleton]; omega
    have hY2 : Y ≤ 18446744073709551615 := by
      have e : (128 : Nat) ^ f ≤ 128 ^ 9 := Nat.pow_le_pow_right (by omega) hf
      have e' : (128 : Int) ^ f ≤ 128 ^ 9 := by exact_mod_cast e
      omega
    clear hu V hY1 h1 hcf hc1
    by_cases hlt : Y < 128
    · have hlt' : ¬ 128 ≤ Y := by omega
      have hm : Y % 128 = Y := by omega
      have H := hide (show digF 9 x = c1 by
        have e1 : digF f Y = [Y] := by cases f <;> simp [digF, hlt]
        rw [HU.out, e1, HC1.out, hm])
      go_wp2
      go_ret
      exact ⟨_, rfl, by rw [H.out]; exact HV.out.oa, HV.out.hB⟩
    · have hlt' : 128 ≤ Y := by omega
      obtain ⟨f, rfl⟩ : ∃ f', f = f' + 1 := by
        cases f with
        | zero => have := HY1.out; simp at this; omega
        | succ f => exact ⟨f, rfl⟩
      go_wp2_with (at_builtin; go_must (refine wpList_append_any _ Tryz.okU (by rfl) (.tmp 16) (.tmp 20) (by rfl) w.heap.size (.slice A c1.length c) c1.length (ucs c1) (by rfl) (HV.out.below (below_alloc _ _)).oa _ (some ⟨wr.heap.size, 0, none⟩) 1 1 (ucs [Y / 128 % 128]) (by rfl) (reads_u1 wr (Y / 128 % 128) _ rfl) (uc_one _) (by unfold maxLen; omega) (by omega) (by simp; omega) ?_); intro v5 w5 ho5 hg5 hn5 ha5; go_must (have HV5 := hide ((HV.out.below (below_alloc _ _)).app (cs := [Y / 128 % 128]) ho5 hg5)); clear ho5 hg5 hn5 ha5)
      go_wp2
      go_roundw
      case rel =>
        refine ⟨f, Y / 128, c1, by go_num, by omega, by omega, div_lt_pow HY1.out, by have := HC.out; rw [HC1.out]; simp; omega, ?_, HV5.out⟩
        rw [HU.out, digF, if_neg (by omega), HC1.out]; simp
      case measure => simp [intOf]; omega
set_option maxRecDepth 100000 in
set_option maxHeartbeats 1000000 in
theorem short_s (x : Int) (w : World) (h : wfU64 x) : Calls Tryz.prog 23 #[.int .u64 x] w (RetY w (uintB x)) := by
  have TD := hide (fun W => digits_s x W h)
  have hdl := digF_len 9 x
  have hok := digF_ok 9 x h.1 (by have := h.2; omega)
  have HE := hide (shB_dig 9 x)
  rw [show uintB x = uintF 9 x from rfl]
  generalize digF 9 x = dg at TD hdl hok HE
  generalize uintF 9 x = en at HE ⊢
  have hsl := shB_len dg
  have HOK := hide hok
  clear h hok
  go_enter Tryz.func23, Tryz.ntmps23
  go_wp2_with fail
  (with_reducible refine (TD.out _).mono ?_)
  rintro e w1 ⟨v1, rfl, ho1, hb1⟩
  haveI : Stp _ w1 := ⟨hb1⟩
  obtain ⟨A1, c1, rfl, _, _⟩ := own_slice ho1
  haveI : Src w1 A1 dg.length 1 (ucs dg) := ⟨Reads.of_own ho1⟩
  have HB1 := hide hb1
  clear ho1 hb1 TD
  go_wp2_with fail
  go_loopw [4, 5] (fun v i wr => ∃ (k : Nat) (bs : List Int), k ≤ dg.length ∧ i = .int .i64 k ∧ YB w1 v bs wr ∧ bs = (shB dg).take k) (fun _ i _ => dg.length - (intOf i).toNat)
  case atStart => exact ⟨0, [], Nat.zero_le _, rfl, YB.nil w1, rfl⟩
  case round =>
    obtain ⟨k, bs, hk, rfl, V, hbs⟩ := hrel
    obtain ⟨A, c, rfl, _, _⟩ := own_slice V.oa
    have hbl : bs.length ≤ 10 := by rw [hbs, List.length_take]; omega
    have HBS := hide hbs
    have HV := hide V
    have hsz := V.hB.size
    haveI : Blw w1 wr := ⟨V.hB⟩
    clear hbs V
    by_cases hlt : k < dg.length
    · obtain ⟨b, off, y, rfl, hb, hp, g1⟩ := (show Reads wr wr.heap.size 1 A1 dg.length (ucs dg) from src).atUs hlt
      have hy := HOK.out y (List.mem_of_getElem? hp)
      have HG := hide (shB_get dg k y hp)
      haveI : InW b wr := ⟨hb⟩
      have i1 : (k : Int) < (dg.length : Int) := by omega
      clear hp
      have h1 : (y + 128) % 18446744073709551616 = y + 128 := by omega
      have h2 : (y + 128) % 256 = y + 128 := by omega
      have h3 : (y + 0) % 18446744073709551616 = y := by omega
      have h4 : y % 256 = y := by omega
      by_cases hl2 : k + 1 < dg.length
      · have i2 : (k : Int) + 1 < (dg.length : Int) := by omega
        rw [if_pos hl2] at HG
        go_wp2_with (at_builtin; go_must (refine wpList_append_any _ Tryz.okB (by rfl) (.tmp 20) (.tmp 28) (by rfl) w1.heap.size (.slice A bs.length c) bs.length (bcs bs) (by rfl) (HV.out.below (below_alloc _ _)).oa _ (some ⟨wr.heap.size, 0, none⟩) 1 1 (bcs [y + 128]) (by rfl) (reads_b1 wr (y + 128) _ rfl) (bcs_one _) (by unfold maxLen; omega) (by omega) (by simp; omega) ?_); intro v5 w5 ho5 hg5 hn5 ha5; go_must (have HV5 := hide ((HV.out.below (below_alloc _ _)).app (cs := [y + 128]) ho5 hg5)); clear ho5 hg5 hn5 ha5)
        go_wp2
        go_roundw
        case rel => exact ⟨k + 1, bs ++ [y + 128], by omega, by go_num, HV5.out, by rw [HBS.out, take_succ_of HG.out]⟩
        case measure => simp [intOf]; omega
      · have i2 : ¬ (k : Int) + 1 < (dg.length : Int) := by omega
        rw [if_neg hl2] at HG
        go_wp2_with (at_builtin; go_must (refine wpList_append_any _ Tryz.okB (by rfl) (.tmp 20) (.tmp 28) (by rfl) w1.heap.size (.slice A bs.length c) bs.length (bcs bs) (by rfl) (HV.out.below (below_alloc _ _)).oa _ (some ⟨wr.heap.size, 0, none⟩) 1 1 (bcs [y]) (by rfl) (reads_b1 wr y _ rfl) (bcs_one _) (by unfold maxLen; omega) (by omega) (by simp; omega) ?_); intro v5 w5 ho5 hg5 hn5 ha5; go_must (have HV5 := hide ((HV.out.below (below_alloc _ _)).app (cs := [y]) ho5 hg5)); clear ho5 hg5 hn5 ha5)
        go_wp2
        go_roundw
        case rel => exact ⟨k + 1, bs ++ [y], by omega, by go_num, HV5.out, by rw [HBS.out, take_succ_of HG.out]⟩
        case measure => simp [intOf]; omega
    · have H := hide (show en = bs by
        rw [HBS.out, ← HE.out, List.take_of_length_le (by omega)])
      go_wp2
      go_ret
      exact ⟨_, rfl, by rw [H.out]; exact own_base HV.out.oa HB1.out.size, below_step HB1.out HV.out.hB⟩
set_option maxRecDepth 100000 in
set_option maxHeartbeats 1000000 in
theorem rtext_s (t : List Int) (w : World) (ht : t.length ≤ 100000) (hok : bOK t) : Calls Tryz.prog 24 #[.string (strOfNums t)] w (RetY w (txtB t)) := by
  have TU := hide (fun W => short_s (t.length : Int) W ⟨by omega, by omega⟩)
  have hs := strOf_size t
  have HS := hide hs
  have HC := hide (strCells_nums hok)
  have hul := uintB_len (t.length : Int)
  have HE := hide (show txtB t = uintB (t.length : Int) ++ t from rfl)
  generalize hst : strOfNums t = st at HS HC hs ⊢
  generalize txtB t = en at HE ⊢
  generalize uintB (t.length : Int) = ub at TU hul HE
  have hsz : (st.size : Int) = (t.length : Int) := by rw [hs]
  clear hs hst hok
  go_enter Tryz.func24, Tryz.ntmps24
  go_wp2_with fail
  (with_reducible refine (TU.out _).mono ?_)
  rintro e w1 ⟨v1, rfl, ho1, hb1⟩
  have HO := hide ho1
  have HB := hide hb1
  obtain ⟨A1, c1, rfl, _, _⟩ := own_slice ho1
  clear ho1 hb1 TU hsz
  go_wp2_with (at_builtin; refine wpList_str_at (by rfl) (.tmp 6) (.tmp 7) 26 9 (by rfl) w.heap.size 5 Tryz.okB Tryz.zB Tryz.underlying9 (.slice A1 ub.length c1) ub.length (bcs ub) (by rfl) HO.out st (by rfl) (by rw [HS.out]; unfold maxLen; omega) (by rw [HS.out]; omega) HB.out.size ?_; intro v2 w2 ho hg ha; rw [HS.out, HC.out] at ho; have HO2 := hide ho; have HB2 := hide (HB.out.grown hg HB.out.size (fun k hk => (HO.out.lt k hk).1)); clear ho hg ha)
  go_wp2
  go_ret
  exact ⟨_, rfl, by rw [HE.out, OwnB, List.length_append, bcs_app]; exact HO2.out, HB2.out⟩
end Go.Proofs.YtggmninbpnolgaaGreat
