/-
  The reference of layer 2: contracts: digits, Short, Text.
-/
import Derived.Test.YtggmninbpnolgaaGreatRb
import Derived.Test.YtggmninbpnolgaaGreatTxt
import Derived.Test.YtggmninbpnolgaaGreatTc
import Derived.Test.YtggmninbpnolgaaGreatVget
import Derived.Test.YtggmninbpnolgaaGreatTc2
import Derived.Test.YtggmninbpnolgaaGreatPkL
import Derived.Test.YtggmninbpnolgaaGreatPkA
namespace Go.Proofs.YtggmninbpnolgaaGreat
set_option linter.unusedSimpArgs false
set_option linter.unusedVariables false
set_option linter.unusedSectionVars false
open Go.RowKit

/-- digits to the base 128, the lowest first -/
def digF : Nat → Int → List Int
  | 0, x => [x]
  | f + 1, x => if x < 128 then [x] else x % 128 :: digF f (x / 128)
/-- digits with their marks: all but the last one have 128 more -/
def shB : List Int → List Int
  | [] => []
  | [a] => [a]
  | a :: b :: t => (a + 128) :: shB (b :: t)
theorem digF_pos (f : Nat) (x : Int) : digF f x ≠ [] := by
  cases f with
  | zero => simp [digF]
  | succ f => rw [digF]; split <;> simp
theorem digF_len : ∀ (f : Nat) (x : Int), (digF f x).length ≤ f + 1 := by
  intro f
  induction f with
  | zero => intro x; simp [digF]
  | succ f ih => intro x; rw [digF]; split <;> simp; exact ih _
theorem shB_dig : ∀ (f : Nat) (x : Int), shB (digF f x) = uintF f x := by
  intro f
  induction f with
  | zero => intro x; rfl
  | succ f ih =>
    intro x
    rw [digF, uintF]
    by_cases h : x < 128
    · rw [if_pos h, if_pos h]; rfl
    · rw [if_neg h, if_neg h, ← ih]
      have := digF_pos f (x / 128)
      cases hd : digF f (x / 128) with
      | nil => exact absurd hd this
      | cons a t => rfl
theorem digF_ok : ∀ (f : Nat) (x : Int), 0 ≤ x → x < 128 ^ f * 2 → ∀ d ∈ digF f x, 0 ≤ d ∧ d < 128 := by
  intro f
  induction f with
  | zero => intro x h0 h d hd; simp [digF] at hd; subst hd; simp at h; omega
  | succ f ih =>
    intro x h0 h d hd
    rw [digF] at hd
    split at hd
    · simp at hd; omega
    · rcases List.mem_cons.1 hd with rfl | hd
      · omega
      · exact ih (x / 128) (by omega) (div_lt_pow h) d hd
theorem shB_len : ∀ l : List Int, (shB l).length = l.length
  | [] => rfl
  | [_] => rfl
  | _ :: b :: t => by rw [shB, List.length_cons, shB_len (b :: t)]; rfl
theorem shB_get : ∀ (l : List Int) (k : Nat) (x : Int), l[k]? = some x → (shB l)[k]? = some (if k + 1 < l.length then x + 128 else x)
  | [], k, x, h => by simp at h
  | [a], k, x, h => by
    cases k with
    | zero => simp at h; simp [shB, h]
    | succ k => simp at h
  | a :: b :: t, k, x, h => by
    cases k with
    | zero => simp at h; simp [shB, h]
    | succ k =>
      have := shB_get (b :: t) k x (by simpa using h)
      rw [shB, List.getElem?_cons_succ, this]
      simp
/-- while numbers are laid one behind the other -/
structure YU (w : World) (v : Value) (us : List Int) (W : World) : Prop where
  oa : W.ownsRow w.heap.size 22 1 v us.length (ucs us)
  hB : Below w.heap.size w W
theorem YU.below {w W W' : World} {v : Value} {us : List Int} (h : YU w v us W) (hb : Below W.heap.size W W') : YU w v us W' := ⟨own_below h.oa hb (Nat.le_refl _), below_step h.hB hb⟩
theorem YU.app {w W W' : World} {v v' : Value} {us cs : List Int} (h : YU w v us W) (ho : W'.ownsRow w.heap.size 22 1 v' (us.length + cs.length) (ucs us ++ ucs cs)) (hg : W.grownBy W' v.ownBlock) : YU w v' (us ++ cs) W' := by
  refine ⟨?_, h.hB.grown hg h.hB.size (fun k hk => (h.oa.lt k hk).1)⟩
  rw [List.length_append, ucs_app]; exact ho
theorem YU.one (w : World) (x : Int) : YU w (.slice (some ⟨w.heap.size, 0, none⟩) 1 1) [x] (w.alloc (.cells #[.int .u64 x] 22)) :=
  ⟨World.ownsRow_lit w #[.int .u64 x] 1 (Nat.le_refl _) (by unfold maxLen; omega) rfl, below_alloc _ _⟩
theorem reads_u1 (w : World) (x : Int) (m : Nat) (hm : w.heap.size = m) : Reads (w.alloc (.cells #[.int .u64 x] 22)) (w.alloc (.cells #[.int .u64 x] 22)).heap.size 1 (some ⟨m, 0, none⟩) 1 (ucs [x]) := by
  subst hm
  exact ⟨rfl, fun _ => ⟨_, _, rfl, by simp, fun j u hu => by
    cases j with
    | zero => simp [ucs] at hu; subst hu; simp
    | succ j => simp [ucs] at hu⟩⟩
theorem Reads.atUs {w : World} {B : Nat} {A : Option Addr} {n k : Nat} {l : List Int} (h : Reads w B 1 A n (ucs l)) (hk : k < n) :
    ∃ b off x, A = some ⟨b, off, none⟩ ∧ b < B ∧ l[k]? = some x ∧ w.cell? ⟨b, off + k, none⟩ = some (.int .u64 x) := by
  obtain ⟨b, off, rfl, hb, hc⟩ := h.2 (by omega)
  have hl : k < l.length := by have := h.1; rw [ucs_len] at this; omega
  exact ⟨b, off, l[k], rfl, hb, List.getElem?_eq_getElem hl, hc k _ (by simp [ucs, hl])⟩
/-- numbers in new memory -/
def RetUs (w : World) (us : List Int) (e : Ending) (w' : World) : Prop := ∃ v, e = .returned v ∧ w'.ownsRow w.heap.size 22 1 v us.length (ucs us) ∧ Below w.heap.size w w'
set_option maxRecDepth 100000 in
set_option maxHeartbeats 1000000 in
theorem digits_s (x : Int) (w : World) (h : wfU64 x) : Calls Tryz.prog 56 #[.int .u64 x, .int .u64 128] w (RetUs w (digF 9 x)) := by
  obtain ⟨h0, h1⟩ := h
  go_enter Tryz.func56, Tryz.ntmps56
  go_wp2
  go_loopw [0, 5] (fun y v wr => ∃ (f : Nat) (Y : Int) (cs : List Int), y = .int .u64 Y ∧ f ≤ 9 ∧ 0 ≤ Y ∧ Y < 128 ^ f * 2 ∧ cs.length + f = 9 ∧ digF 9 x = cs ++ digF f Y ∧ YU w v (cs ++ [Y % 128]) wr) (fun y _ _ => (intOf y).toNat)
  case atStart => exact ⟨9, x, [], rfl, by omega, h0, by omega, rfl, rfl, YU.one w _⟩
  case round =>
    obtain ⟨f, Y, cs, rfl, hf, hY0, hY1, hcf, hu, V⟩ := hrel
    obtain ⟨c1, hc1⟩ : ∃ c1, c1 = cs ++ [Y % 128] := ⟨_, rfl⟩
    rw [← hc1] at V
    obtain ⟨A, c, rfl, _, _⟩ := own_slice V.oa
    have HU := hide hu
    have HV := hide V
    have HY1 := hide hY1
    have hsz := V.hB.size
    have HC := hide hcf
    have HC1 := hide hc1
    have hcl : c1.length ≤ 10 := by rw [hc1, List.length_append, List.length_singleton]; omega
    have hY2 : Y ≤ 18446744073709551615 := by
      have e : (128 : Nat) ^ f ≤ 128 ^ 9 := Nat.pow_le_pow_right (by omega) hf
      have e' : (128 : Int) ^ f ≤ 128 ^ 9 := by exact_mod_cast e
      omega
    clear hu V hY1 h1 hcf hc1
    by_cases hlt : Y < 128
    · have hlt' : ¬ 128 ≤ Y := by omega
      have hm : Y % 128 = Y := by omega
      have H := hide (show digF 9 x = c1 by
        have e1 : digF f Y = [Y] := by cases f <;> simp [digF, hlt]
        rw [HU.out, e1, HC1.out, hm])
      go_wp2
      go_ret
      exact ⟨_, rfl, by rw [H.out]; exact HV.out.oa, HV.out.hB⟩
    · have hlt' : 128 ≤ Y := by omega
      obtain ⟨f, rfl⟩ : ∃ f', f = f' + 1 := by
        cases f with
        | zero => have := HY1.out; simp at this; omega
        | succ f => exact ⟨f, rfl⟩
      go_wp2_with (at_builtin; go_must (refine wpList_append_any _ Tryz.okU (by rfl) (.tmp 16) (.tmp 20) (by rfl) w.heap.size (.slice A c1.length c) c1.length (ucs c1) (by rfl) (HV.out.below (below_alloc _ _)).oa _ (some ⟨wr.heap.size, 0, none⟩) 1 1 (ucs [Y / 128 % 128]) (by rfl) (reads_u1 wr (Y / 128 % 128) _ rfl) (uc_one _) (by unfold maxLen; omega) (by omega) (by simp; omega) ?_); intro v5 w5 ho5 hg5 hn5 ha5; go_must (have HV5 := hide ((HV.out.below (below_alloc _ _)).app (cs := [Y / 128 % 128]) ho5 hg5)); clear ho5 hg5 hn5 ha5)
      go_wp2
      go_roundw
      case rel =>
        refine ⟨f, Y / 128, c1, by go_num, by omega, by omega, div_lt_pow HY1.out, by have := HC.out; rw [HC1.out]; simp; omega, ?_, HV5.out⟩
        rw [HU.out, digF, if_neg (by omega), HC1.out]; simp
      case measure => simp [intOf]; omega
set_option maxRecDepth 100000 in
set_option maxHeartbeats 1000000 in
theorem short_s (x : Int) (w : World) (h : wfU64 x) : Calls Tryz.prog 23 #[.int .u64 x] w (RetY w (uintB x)) := by
  have TD := hide (fun W => digits_s x W h)
  have hdl := digF_len 9 x
  have hok := digF_ok 9 x h.1 (by have := h.2; omega)
  have HE := hide (shB_dig 9 x)
  rw [show uintB x = uintF 9 x from rfl]
  generalize digF 9 x = dg at TD hdl hok HE
  generalize uintF 9 x = en at HE ⊢
  have hsl := shB_len dg
  have HOK := hide hok
  clear h hok
  go_enter Tryz.func23, Tryz.ntmps23
  go_wp2_with fail
  (with_reducible refine (TD.out _).mono ?_)
  rintro e w1 ⟨v1, rfl, ho1, hb1⟩
  haveI : Stp _ w1 := ⟨hb1⟩
  obtain ⟨A1, c1, rfl, _, _⟩ := own_slice ho1
  haveI : Src w1 A1 dg.length 1 (ucs dg) := ⟨Reads.of_own ho1⟩
  have HB1 := hide hb1
  clear ho1 hb1 TD
  go_wp2_with fail
  go_loopw [4, 5] (fun v i wr => ∃ (k : Nat) (bs : List Int), k ≤ dg.length ∧ i = .int .i64 k ∧ YB w1 v bs wr ∧ bs = (shB dg).take k) (fun _ i _ => dg.length - (intOf i).toNat)
  case atStart => exact ⟨0, [], Nat.zero_le _, rfl, YB.nil w1, rfl⟩
  case round =>
    obtain ⟨k, bs, hk, rfl, V, hbs⟩ := hrel
    obtain ⟨A, c, rfl, _, _⟩ := own_slice V.oa
    have hbl : bs.length ≤ 10 := by rw [hbs, List.length_take]; omega
    have HBS := hide hbs
    have HV := hide V
    have hsz := V.hB.size
    haveI : Blw w1 wr := ⟨V.hB⟩
    clear hbs V
    by_cases hlt : k < dg.length
    · obtain ⟨b, off, y, rfl, hb, hp, g1⟩ := (show Reads wr wr.heap.size 1 A1 dg.length (ucs dg) from src).atUs hlt
      have hy := HOK.out y (List.mem_of_getElem? hp)
      have HG := hide (shB_get dg k y hp)
      haveI : InW b wr := ⟨hb⟩
      have i1 : (k : Int) < (dg.length : Int) := by omega
      clear hp
      have h1 : (y + 128) % 18446744073709551616 = y + 128 := by omega
      have h2 : (y + 128) % 256 = y + 128 := by omega
      have h3 : (y + 0) % 18446744073709551616 = y := by omega
      have h4 : y % 256 = y := by omega
      by_cases hl2 : k + 1 < dg.length
      · have i2 : (k : Int) + 1 < (dg.length : Int) := by omega
        rw [if_pos hl2] at HG
        go_wp2_with (at_builtin; go_must (refine wpList_append_any _ Tryz.okB (by rfl) (.tmp 20) (.tmp 28) (by rfl) w1.heap.size (.slice A bs.length c) bs.length (bcs bs) (by rfl) (HV.out.below (below_alloc _ _)).oa _ (some ⟨wr.heap.size, 0, none⟩) 1 1 (bcs [y + 128]) (by rfl) (reads_b1 wr (y + 128) _ rfl) (bcs_one _) (by unfold maxLen; omega) (by omega) (by simp; omega) ?_); intro v5 w5 ho5 hg5 hn5 ha5; go_must (have HV5 := hide ((HV.out.below (below_alloc _ _)).app (cs := [y + 128]) ho5 hg5)); clear ho5 hg5 hn5 ha5)
        go_wp2
        go_roundw
        case rel => exact ⟨k + 1, bs ++ [y + 128], by omega, by go_num, HV5.out, by rw [HBS.out, take_succ_of HG.out]⟩
        case measure => simp [intOf]; omega
      · have i2 : ¬ (k : Int) + 1 < (dg.length : Int) := by omega
        rw [if_neg hl2] at HG
        go_wp2_with (at_builtin; go_must (refine wpList_append_any _ Tryz.okB (by rfl) (.tmp 20) (.tmp 28) (by rfl) w1.heap.size (.slice A bs.length c) bs.length (bcs bs) (by rfl) (HV.out.below (below_alloc _ _)).oa _ (some ⟨wr.heap.size, 0, none⟩) 1 1 (bcs [y]) (by rfl) (reads_b1 wr y _ rfl) (bcs_one _) (by unfold maxLen; omega) (by omega) (by simp; omega) ?_); intro v5 w5 ho5 hg5 hn5 ha5; go_must (have HV5 := hide ((HV.out.below (below_alloc _ _)).app (cs := [y]) ho5 hg5)); clear ho5 hg5 hn5 ha5)
        go_wp2
        go_roundw
        case rel => exact ⟨k + 1, bs ++ [y], by omega, by go_num, HV5.out, by rw [HBS.out, take_succ_of HG.out]⟩
        case measure => simp [intOf]; omega
    · have H := hide (show en = bs by
        rw [HBS.out, ← HE.out, List.take_of_length_le (by omega)])
      go_wp2
      go_ret
      exact ⟨_, rfl, by rw [H.out]; exact own_base HV.out.oa HB1.out.size, below_step HB1.out HV.out.hB⟩
set_option maxRecDepth 100000 in
set_option maxHeartbeats 1000000 in
theorem rtext_s (t : List Int) (w : World) (ht : t.length ≤ 100000) (hok : bOK t) : Calls Tryz.prog 24 #[.string (strOfNums t)] w (RetY w (txtB t)) := by
  have TU := hide (fun W => short_s (t.length : Int) W ⟨by omega, by omega⟩)
  have hs := strOf_size t
  have HS := hide hs
  have HC := hide (strCells_nums hok)
  have hul := uintB_len (t.length : Int)
  have HE := hide (show txtB t = uintB (t.length : Int) ++ t from rfl)
  generalize hst : strOfNums t = st at HS HC hs ⊢
  generalize txtB t = en at HE ⊢
  generalize uintB (t.length : Int) = ub at TU hul HE
  have hsz : (st.size : Int) = (t.length : Int) := by rw [hs]
  clear hs hst hok
  go_enter Tryz.func24, Tryz.ntmps24
  go_wp2_with fail
  (with_reducible refine (TU.out _).mono ?_)
  rintro e w1 ⟨v1, rfl, ho1, hb1⟩
  have HO := hide ho1
  have HB := hide hb1
  obtain ⟨A1, c1, rfl, _, _⟩ := own_slice ho1
  clear ho1 hb1 TU hsz
  go_wp2_with (at_builtin; refine wpList_str_at (by rfl) (.tmp 6) (.tmp 7) 26 9 (by rfl) w.heap.size 5 Tryz.okB Tryz.zB Tryz.underlying9 (.slice A1 ub.length c1) ub.length (bcs ub) (by rfl) HO.out st (by rfl) (by rw [HS.out]; unfold maxLen; omega) (by rw [HS.out]; omega) HB.out.size ?_; intro v2 w2 ho hg ha; rw [HS.out, HC.out] at ho; have HO2 := hide ho; have HB2 := hide (HB.out.grown hg HB.out.size (fun k hk => (HO.out.lt k hk).1)); clear ho hg ha)
  go_wp2
  go_ret
  exact ⟨_, rfl, by rw [HE.out, OwnB, List.length_append, bcs_app]; exact HO2.out, HB2.out⟩
end Go.Proofs.YtggmninbpnolgaaGreat

namespace Go.Proofs.YtggmninbpnolgaaGreat
set_option linter.unusedSimpArgs false
set_option linter.unusedVariables false
set_option linter.unusedSectionVars false
open Go.RowKit

theorem reads_b2x (W : World) (m : Nat) (x y : Int) [h : BoxAt W m #[.int .u8 x, .int .u8 y] 5] : Reads W W.heap.size 1 (some ⟨m, 0, none⟩) 2 (bcs [x, y]) := reads_box h rfl
/-- a box of another kind than bytes is as it was behind an append to the bytes -/
theorem PB.box {w W W' : World} {cs : Array Value} {t : TypeId} {v : Value} {bs : List Int} (h : PB w cs t v bs W) (hg : W.grownBy W' v.ownBlock) {m : Nat} {cs' : Array Value} {t' : TypeId} (hb : BoxAt W m cs' t') (ht : t' ≠ 5) : BoxAt W' m cs' t' := by
  refine ⟨?_⟩
  rw [hg.block m hb.lt (fun e => ?_)]
  · exact hb.eq
  · rcases h.oa.2 with ⟨rfl, _⟩ | ⟨g, cap, cur, rfl, _, hg', _⟩
    · simp [Value.ownBlock] at e
    · simp only [Value.ownBlock, Option.some.injEq] at e
      subst e
      rw [hb.eq] at hg'
      injection hg' with hg'
      injection hg' with _ e2
      exact ht e2
section
variable (n i hp : Int) (HA : Option Addr) (hcp : Nat) (hs : List Hd) (BA : Option Addr) (bcp : Nat) (bs : List Int) (an ai sq : Int) (PA : Option Addr) (pcp : Nat) (ps : List Pr)
set_option maxRecDepth 100000 in
set_option maxHeartbeats 4000000 in
theorem refKBytes_1 (w : World) (h : Reads w w.heap.size 4 HA hs.length (hcs hs)) (hbb : Reads w w.heap.size 1 BA bs.length (bcs bs)) (hpp : Sl w PA ps) (f1 : wfU64 ai) (f2 : wfU64 sq) (f3 : ∀ p ∈ ps, wfU64 p.2) (hl : ps.length ≤ 200) :
    Calls Tryz.prog 10 #[PkV 1 n i hp HA hs.length hcp BA bs.length bcp an ai sq PA ps.length pcp] w (RetY w (1 :: advE an ai sq ps)) := by
  have HEQ : Hid (1 :: advE an ai sq ps = (((([1] ++ procsB [(an, ai)]) ++ uintB sq) ++ [(ps.length : Int)]) ++ procsB ps)) := hide (by simp [advE, datE, ackE, topB, lsB, procsB])
  generalize 1 :: advE an ai sq ps = en at HEQ ⊢
  haveI : Src w HA hs.length 4 (hcs hs) := ⟨h⟩
  haveI : Src w PA ps.length 2 (pcs ps) := ⟨hpp⟩
  haveI : RdY w BA bs.length bs := ⟨hbb⟩
  have HY := hide hbb
  clear h hbb hpp
  have HP0 := hide (PB.one w (csK 1 n i hp HA hs.length hcp BA bs.length bcp an ai sq PA ps.length pcp) 31 1)
  have TB1 := hide (fun A c W (h : Sl W A [(an, ai)]) => refBytes_s A c [(an, ai)] W h (by simp) (by intro p hp; simp at hp; rw [hp]; exact f1))
  have l1 : (procsB [(an, ai)]).length ≤ 11 := procsB_len _
  simp only [List.length_singleton] at TB1
  generalize procsB [(an, ai)] = e1 at TB1 l1 HEQ
  have TQ := hide (fun W => short_s sq W f2)
  have l2 := uintB_len sq
  generalize uintB sq = e2 at TQ l2 HEQ
  have TS := hide (fun W (h : Sl W PA ps) => refBytes_s PA pcp ps W h (by omega) f3)
  have l3 : (procsB ps).length ≤ 2200 := by have := procsB_len ps; omega
  generalize procsB ps = e3 at TS l3 HEQ
  have m1 : (ps.length : Int) % 256 = (ps.length : Int) := by omega
  clear f1 f2 f3
  go_enter Tryz.func10, Tryz.ntmps10
  go_wp2_with fail
  (with_reducible refine (TB1.out _ _ _ (sl_p1x _ _ _ _)).mono ?_)
  rintro e wB0 ⟨vB, rfl, hoB, hbB⟩
  haveI : Stp _ wB0 := ⟨hbB⟩
  obtain ⟨AB, cB, rfl, _, _⟩ := own_slice hoB
  have HOB := hide hoB
  clear hoB hbB
  go_wp2_with ((at_builtin; refine wpList_append_w Tryz.okB rfl (.tmp 13) (.tmp 18) rfl (w.heap.size + 1) (.slice (some ⟨w.heap.size + 1, 0, none⟩) 1 1) 1 (bcs [1]) e1.length (bcs e1) ?_ ?_ ?_ ?_ ?_ ?_ ?_ ?_; go_must ((focus (first | rfl | (simp [Act.eval, Act.put]; done))); (focus (exact own_tc HP0.out.oa)); (focus (refine ⟨_, _, rfl, ?_⟩; exact Reads.of_own HOB.out)); (focus (exact bcs_one _)); (focus (unfold maxLen; omega)); (focus omega); (focus (first | omega | (simp; done) | (simp; omega) | exact BoxAt.lt (n := w.heap.size) inferInstance)); intro v4 w4 ho4 hg4; have P4 := (HP0.out.tc).app (bs := [1]) ho4 hg4; generalize hG4 : [1] ++ e1 = b4 at P4; have HG4 := hide hG4; have lb4 : b4.length ≤ 12 := (by rw [← hG4, List.length_append, List.length_singleton]; omega); have HP4 := hide P4; haveI := P4.k; haveI := P4.blw; obtain ⟨A4, c4, e4', _, _⟩ := own_slice P4.oa; subst e4'; clear ho4 hg4 P4 hG4)))
  clear HP0 HOB
  (with_reducible refine (TQ.out _).mono ?_)
  rintro e wB2 ⟨vB, rfl, hoB, hbB⟩
  haveI : Stp _ wB2 := ⟨hbB⟩
  obtain ⟨AB, cB, rfl, _, _⟩ := own_slice hoB
  have HOB := hide hoB
  clear hoB hbB
  go_wp2_with (first | ((at_builtin; refine wpList_append_w Tryz.okB rfl (.tmp 20) (.tmp 24) rfl (w.heap.size + 1) (.slice A4 b4.length c4) b4.length (bcs b4) e2.length (bcs e2) ?_ ?_ ?_ ?_ ?_ ?_ ?_ ?_; go_must ((focus (first | rfl | (simp [Act.eval, Act.put]; done))); (focus (exact (HP4.out.tc).oa)); (focus (refine ⟨_, _, rfl, ?_⟩; exact Reads.of_own HOB.out)); (focus (exact bcs_one _)); (focus (unfold maxLen; omega)); (focus omega); (focus (first | exact (HP4.out.tc).sz | omega | (simp; done) | (simp; omega) | exact BoxAt.lt (n := w.heap.size) inferInstance)); intro v5 w5 ho5 hg5; have P5 := HP4.out.tc.app ho5 hg5; generalize hG5 : b4 ++ e2 = b5 at P5; have HG5 := hide hG5; have lb5 : b5.length ≤ 22 := (by rw [← hG5, List.length_append]; omega); have HP5 := hide P5; haveI := P5.k; haveI := P5.blw; obtain ⟨A5, c5, e5', _, _⟩ := own_slice P5.oa; subst e5'; clear ho5 hg5 P5 hG5))) | ((at_builtin; refine wpList_append_w Tryz.okB rfl (.tmp 26) (.tmp 32) rfl (w.heap.size + 1) (.slice A5 b5.length c5) b5.length (bcs b5) 1 (bcs [(ps.length : Int)]) ?_ ?_ ?_ ?_ ?_ ?_ ?_ ?_; go_must ((focus (first | rfl | (simp [Act.eval, Act.put]; done))); (focus (exact (HP5.out.tc).oa)); (focus (refine ⟨_, _, rfl, ?_⟩; exact reads_b1x _ _ _)); (focus (exact bcs_one _)); (focus (unfold maxLen; omega)); (focus omega); (focus (first | exact (HP5.out.tc).sz | omega | (simp; done) | (simp; omega) | exact BoxAt.lt (n := w.heap.size) inferInstance)); intro v6 w6 ho6 hg6; have P6 := HP5.out.tc.app ho6 hg6; generalize hG6 : b5 ++ [(ps.length : Int)] = b6 at P6; have HG6 := hide hG6; have lb6 : b6.length ≤ 23 := (by rw [← hG6, List.length_append]; simp only [List.length_cons, List.length_nil]; omega); have HP6 := hide P6; haveI := P6.k; haveI := P6.blw; obtain ⟨A6, c6, e6', _, _⟩ := own_slice P6.oa; subst e6'; clear ho6 hg6 P6 hG6))))
  clear HP4 HOB HP5
  (with_reducible refine (TS.out _ sl_tc).mono ?_)
  rintro e wB3 ⟨vB, rfl, hoB, hbB⟩
  haveI : Stp _ wB3 := ⟨hbB⟩
  obtain ⟨AB, cB, rfl, _, _⟩ := own_slice hoB
  have HOB := hide hoB
  clear hoB hbB
  go_wp2_with ((at_builtin; refine wpList_append_w Tryz.okB rfl (.tmp 34) (.tmp 38) rfl (w.heap.size + 1) (.slice A6 b6.length c6) b6.length (bcs b6) e3.length (bcs e3) ?_ ?_ ?_ ?_ ?_ ?_ ?_ ?_; go_must ((focus (first | rfl | (simp [Act.eval, Act.put]; done))); (focus (exact (HP6.out.tc).oa)); (focus (refine ⟨_, _, rfl, ?_⟩; exact Reads.of_own HOB.out)); (focus (exact bcs_one _)); (focus (unfold maxLen; omega)); (focus omega); (focus (first | exact (HP6.out.tc).sz | omega | (simp; done) | (simp; omega) | exact BoxAt.lt (n := w.heap.size) inferInstance)); intro v7 w7 ho7 hg7; have P7 := HP6.out.tc.app ho7 hg7; generalize hG7 : b6 ++ e3 = b7 at P7; have HG7 := hide hG7; have lb7 : b7.length ≤ 2300 := (by rw [← hG7, List.length_append]; omega); have HP7 := hide P7; haveI := P7.k; haveI := P7.blw; obtain ⟨A7, c7, e7', _, _⟩ := own_slice P7.oa; subst e7'; clear ho7 hg7 P7 hG7)))
  go_wp2
  go_ret
  exact ⟨_, rfl, by rw [HEQ.out, HG4.out, HG5.out, HG6.out, HG7.out]; exact HP7.out.ret, HP7.out.hB⟩
set_option maxRecDepth 100000 in
set_option maxHeartbeats 4000000 in
theorem refKBytes_2 (w : World) (h : Reads w w.heap.size 4 HA hs.length (hcs hs)) (hbb : Reads w w.heap.size 1 BA bs.length (bcs bs)) (hpp : Sl w PA ps) (f1 : wfU64 i) (f2 : 0 ≤ hp ∧ hp ≤ 8) (f3 : ∀ p ∈ hs, 1 ≤ p.d ∧ p.d ≤ 10 ∧ wfU64 p.c ∧ wfU64 p.s ∧ wfU64 p.i) (hl : hs.length ≤ 10) (hbl : bs.length ≤ 320) (hok : bOK bs) :
    Calls Tryz.prog 10 #[PkV 2 n i hp HA hs.length hcp BA bs.length bcp an ai sq PA ps.length pcp] w (RetY w (2 :: datE n i hp hs bs)) := by
  have HEQ : Hid (2 :: datE n i hp hs bs = ((([2] ++ procsB [(n, i)]) ++ [hp, (hs.length : Int)]) ++ hs.flatMap hdB) ++ txtB bs) := hide (by simp [advE, datE, ackE, topB, lsB, procsB])
  generalize 2 :: datE n i hp hs bs = en at HEQ ⊢
  haveI : Src w HA hs.length 4 (hcs hs) := ⟨h⟩
  haveI : Src w PA ps.length 2 (pcs ps) := ⟨hpp⟩
  haveI : RdY w BA bs.length bs := ⟨hbb⟩
  have HY := hide hbb
  clear h hbb hpp
  have HP0 := hide (PB.one w (csK 2 n i hp HA hs.length hcp BA bs.length bcp an ai sq PA ps.length pcp) 31 2)
  have TB1 := hide (fun A c W (h : Sl W A [(n, i)]) => refBytes_s A c [(n, i)] W h (by simp) (by intro p hp; simp at hp; rw [hp]; exact f1))
  have l1 : (procsB [(n, i)]).length ≤ 11 := procsB_len _
  simp only [List.length_singleton] at TB1
  generalize procsB [(n, i)] = e1 at TB1 l1 HEQ
  have TT := hide (fun W => rtext_s bs W (by omega) hok)
  have l5 : (txtB bs).length ≤ 330 := by rw [txtB, List.length_append]; have := uintB_len (bs.length : Int); omega
  generalize txtB bs = e5 at TT l5 HEQ
  have m1 : (hs.length : Int) % 256 = (hs.length : Int) := by omega
  have m2 : hp % 256 = hp := by omega
  have HF := hide f3
  clear f1 f2 f3 hok
  go_enter Tryz.func10, Tryz.ntmps10
  go_wp2_with fail
  (with_reducible refine (TB1.out _ _ _ (sl_p1x _ _ _ _)).mono ?_)
  rintro e wB0 ⟨vB, rfl, hoB, hbB⟩
  haveI : Stp _ wB0 := ⟨hbB⟩
  obtain ⟨AB, cB, rfl, _, _⟩ := own_slice hoB
  have HOB := hide hoB
  clear hoB hbB
  go_wp2_with (first | ((at_builtin; refine wpList_append_w Tryz.okB rfl (.tmp 40) (.tmp 44) rfl (w.heap.size + 1) (.slice (some ⟨w.heap.size + 1, 0, none⟩) 1 1) 1 (bcs [2]) e1.length (bcs e1) ?_ ?_ ?_ ?_ ?_ ?_ ?_ ?_; go_must ((focus (first | rfl | (simp [Act.eval, Act.put]; done))); (focus (exact own_tc HP0.out.oa)); (focus (refine ⟨_, _, rfl, ?_⟩; exact Reads.of_own HOB.out)); (focus (exact bcs_one _)); (focus (unfold maxLen; omega)); (focus omega); (focus (first | omega | (simp; done) | (simp; omega) | exact BoxAt.lt (n := w.heap.size) inferInstance)); intro v4 w4 ho4 hg4; have P4 := (HP0.out.tc).app (bs := [2]) ho4 hg4; generalize hG4 : [2] ++ e1 = b4 at P4; have HG4 := hide hG4; have lb4 : b4.length ≤ 12 := (by rw [← hG4, List.length_append, List.length_singleton]; omega); have HP4 := hide P4; haveI := P4.k; haveI := P4.blw; obtain ⟨A4, c4, e4', _, _⟩ := own_slice P4.oa; subst e4'; clear ho4 hg4 P4 hG4))) | ((at_builtin; refine wpList_append_w Tryz.okB rfl (.tmp 46) (.tmp 54) rfl (w.heap.size + 1) (.slice A4 b4.length c4) b4.length (bcs b4) 2 (bcs [hp, (hs.length : Int)]) ?_ ?_ ?_ ?_ ?_ ?_ ?_ ?_; go_must ((focus (first | rfl | (simp [Act.eval, Act.put]; done))); (focus (exact (HP4.out.tc).oa)); (focus (refine ⟨_, _, rfl, ?_⟩; exact reads_b2x _ _ _ _)); (focus (exact bcs_one _)); (focus (unfold maxLen; omega)); (focus omega); (focus (first | exact (HP4.out.tc).sz | omega | (simp; done) | (simp; omega) | exact BoxAt.lt (n := w.heap.size) inferInstance)); intro v5 w5 ho5 hg5; have P5 := HP4.out.tc.app ho5 hg5; generalize hG5 : b4 ++ [hp, (hs.length : Int)] = b5 at P5; have HG5 := hide hG5; have lb5 : b5.length ≤ 14 := (by rw [← hG5, List.length_append]; simp only [List.length_cons, List.length_nil]; omega); have HP5 := hide P5; haveI := P5.k; haveI := P5.blw; obtain ⟨A5, c5, e5', _, _⟩ := own_slice P5.oa; subst e5'; clear ho5 hg5 P5 hG5))))
  clear HP0 HOB HP4 m1 m2
  go_loopw [3, 4] (fun v j wr => ∃ (m : Nat) (bb : List Int), m ≤ hs.length ∧ j = .int .i64 m ∧ PB w (csK 2 n i hp HA hs.length hcp BA bs.length bcp an ai sq PA ps.length pcp) 31 v bb wr ∧ bb = b5 ++ (hs.take m).flatMap hdB) (fun _ j _ => hs.length - (intOf j).toNat)
  case atStart => exact ⟨0, b5, Nat.zero_le _, rfl, HP5.out, by simp⟩
  case round =>
    obtain ⟨m, bb, hm, rfl, P, hbb⟩ := hrel
    obtain ⟨AX, cX, rfl, _, _⟩ := own_slice P.oa
    have lbb : bb.length ≤ 14 + m * 31 := by
      rw [hbb, List.length_append]
      have := flat_lenM (f := hdB) (B := 31) (hs.take m) (fun x hx => by
        have h1 := uintB_len x.c; have h2 := uintB_len x.s; have h3 := uintB_len x.i
        simp only [hdB, haB, List.length_cons, List.length_append]; omega)
      rw [List.length_take] at this
      have e : min m hs.length = m := by omega
      rw [e] at this; omega
    have HBB := hide hbb
    have HPX := hide P
    haveI := P.k
    haveI := P.blw
    clear hbb P
    by_cases hlt : m < hs.length
    · obtain ⟨b, off, p, rfl, hb, hp', g1, g2, g3, g4⟩ := (show Reads wr w.heap.size 4 HA hs.length (hcs hs) from srcB).at4 hlt
      have HP' := hide hp'
      haveI : InW b wr := ⟨Nat.lt_of_lt_of_le hb (Blw.h (a := w) (W := wr)).size⟩
      have i0 : (0 : Int) ≤ (m : Int) := by omega
      have i1 : (m : Int) < (hs.length : Int) := by omega
      obtain ⟨q1, q2, q3, q4, q5⟩ := HF.out p (List.mem_of_getElem? hp')
      have m3 : p.d % 256 = p.d := by omega
      have T6 := hide (fun W => short_s p.c W q3)
      have l6 := uintB_len p.c
      generalize hu6 : uintB p.c = e6 at T6 l6
      have HU6 := hide hu6
      have T7 := hide (fun W => short_s p.s W q4)
      have l7 := uintB_len p.s
      generalize hu7 : uintB p.s = e7 at T7 l7
      have HU7 := hide hu7
      clear hp' hu6 hu7 q3 q4 q5
      go_wp2_with ((at_builtin; refine wpList_append_w Tryz.okB rfl (.tmp 68) (.tmp 72) rfl (w.heap.size + 1) (.slice AX bb.length cX) bb.length (bcs bb) 1 (bcs [p.d]) ?_ ?_ ?_ ?_ ?_ ?_ ?_ ?_; go_must ((focus (first | rfl | (simp [Act.eval, Act.put]; done))); (focus (exact (HPX.out.tc).oa)); (focus (refine ⟨_, _, rfl, ?_⟩; exact reads_b1x _ _ _)); (focus (exact bcs_one _)); (focus (unfold maxLen; omega)); (focus omega); (focus (first | exact (HPX.out.tc).sz | omega | (simp; done) | (simp; omega) | exact BoxAt.lt (n := w.heap.size) inferInstance)); intro v6 w6 ho6 hg6; have P6 := HPX.out.tc.app ho6 hg6; generalize hG6 : bb ++ [p.d] = b6 at P6; have HG6 := hide hG6; have lb6 : b6.length ≤ (15 + m * 31) := (by rw [← hG6, List.length_append]; simp only [List.length_cons, List.length_nil]; omega); have HP6 := hide P6; haveI := P6.k; haveI := P6.blw; obtain ⟨A6, c6, e6', _, _⟩ := own_slice P6.oa; subst e6'; haveI : BoxAt w6 wr.heap.size #[.int .i64 p.d, .int .u64 p.c, .int .u64 p.s, .int .u64 p.i] 46 := PB.box (HPX.out.tc) hg6 inferInstance (by decide); clear ho6 hg6 P6 hG6)))
      clear HPX
      (with_reducible refine (T6.out _).mono ?_)
      rintro e wB6 ⟨vB, rfl, hoB, hbB⟩
      haveI : Stp _ wB6 := ⟨hbB⟩
      obtain ⟨AB, cB, rfl, _, _⟩ := own_slice hoB
      have HOB := hide hoB
      clear hoB hbB
      go_wp2_with ((at_builtin; refine wpList_append_w Tryz.okB rfl (.tmp 74) (.tmp 77) rfl (w.heap.size + 1) (.slice A6 b6.length c6) b6.length (bcs b6) e6.length (bcs e6) ?_ ?_ ?_ ?_ ?_ ?_ ?_ ?_; go_must ((focus (first | rfl | (simp [Act.eval, Act.put]; done))); (focus (exact (HP6.out.tc).oa)); (focus (refine ⟨_, _, rfl, ?_⟩; exact Reads.of_own HOB.out)); (focus (exact bcs_one _)); (focus (unfold maxLen; omega)); (focus omega); (focus (first | exact (HP6.out.tc).sz | omega | (simp; done) | (simp; omega) | exact BoxAt.lt (n := w.heap.size) inferInstance)); intro v7 w7 ho7 hg7; have P7 := HP6.out.tc.app ho7 hg7; generalize hG7 : b6 ++ e6 = b7 at P7; have HG7 := hide hG7; have lb7 : b7.length ≤ (25 + m * 31) := (by rw [← hG7, List.length_append]; omega); have HP7 := hide P7; haveI := P7.k; haveI := P7.blw; obtain ⟨A7, c7, e7', _, _⟩ := own_slice P7.oa; subst e7'; haveI : BoxAt w7 wr.heap.size #[.int .i64 p.d, .int .u64 p.c, .int .u64 p.s, .int .u64 p.i] 46 := PB.box (HP6.out.tc) hg7 inferInstance (by decide); clear ho7 hg7 P7 hG7)))
      clear HP6 HOB
      (with_reducible refine (T7.out _).mono ?_)
      rintro e wB7 ⟨vB, rfl, hoB, hbB⟩
      haveI : Stp _ wB7 := ⟨hbB⟩
      obtain ⟨AB, cB, rfl, _, _⟩ := own_slice hoB
      have HOB := hide hoB
      clear hoB hbB
      go_wp2_with ((at_builtin; refine wpList_append_w Tryz.okB rfl (.tmp 79) (.tmp 82) rfl (w.heap.size + 1) (.slice A7 b7.length c7) b7.length (bcs b7) e7.length (bcs e7) ?_ ?_ ?_ ?_ ?_ ?_ ?_ ?_; go_must ((focus (first | rfl | (simp [Act.eval, Act.put]; done))); (focus (exact (HP7.out.tc).oa)); (focus (refine ⟨_, _, rfl, ?_⟩; exact Reads.of_own HOB.out)); (focus (exact bcs_one _)); (focus (unfold maxLen; omega)); (focus omega); (focus (first | exact (HP7.out.tc).sz | omega | (simp; done) | (simp; omega) | exact BoxAt.lt (n := w.heap.size) inferInstance)); intro v8 w8 ho8 hg8; have P8 := HP7.out.tc.app ho8 hg8; generalize hG8 : b7 ++ e7 = b8 at P8; have HG8 := hide hG8; have lb8 : b8.length ≤ (35 + m * 31) := (by rw [← hG8, List.length_append]; omega); have HP8 := hide P8; haveI := P8.k; haveI := P8.blw; obtain ⟨A8, c8, e8', _, _⟩ := own_slice P8.oa; subst e8'; haveI : BoxAt w8 wr.heap.size #[.int .i64 p.d, .int .u64 p.c, .int .u64 p.s, .int .u64 p.i] 46 := PB.box (HP7.out.tc) hg8 inferInstance (by decide); clear ho8 hg8 P8 hG8)))
      clear HP7 HOB
      go_wp2
      go_roundw
      case rel => exact ⟨m + 1, b8, by omega, by go_num, HP8.out, by rw [take_succ_of HP'.out, List.flatMap_append, ← List.append_assoc, ← HBB.out, ← HG8.out, ← HG7.out, ← HG6.out]; simp [hdB, HU6.out, HU7.out]⟩
      case measure => simp [intOf]; omega
    · have H := hide (show bb = b5 ++ hs.flatMap hdB by
        have : m = hs.length := by omega
        subst this; have := HBB.out; rw [List.take_length] at this; exact this)
      have lb2 : bb.length ≤ 400 := by omega
      haveI : RdY wr BA bs.length bs := ⟨(HY.out.below (Blw.h (a := w) (W := wr))).more (Blw.h (a := w) (W := wr)).size⟩
      go_wp2_with fail
      (with_reducible refine (TT.out _).mono ?_)
      rintro e wB9 ⟨vB, rfl, hoB, hbB⟩
      haveI : Stp _ wB9 := ⟨hbB⟩
      obtain ⟨AB, cB, rfl, _, _⟩ := own_slice hoB
      have HOB := hide hoB
      clear hoB hbB
      go_wp2_with ((at_builtin; refine wpList_append_w Tryz.okB rfl (.tmp 95) (.tmp 99) rfl (w.heap.size + 1) (.slice AX bb.length cX) bb.length (bcs bb) e5.length (bcs e5) ?_ ?_ ?_ ?_ ?_ ?_ ?_ ?_; go_must ((focus (first | rfl | (simp [Act.eval, Act.put]; done))); (focus (exact (HPX.out.tc).oa)); (focus (refine ⟨_, _, rfl, ?_⟩; exact Reads.of_own HOB.out)); (focus (exact bcs_one _)); (focus (unfold maxLen; omega)); (focus omega); (focus (first | exact (HPX.out.tc).sz | omega | (simp; done) | (simp; omega) | exact BoxAt.lt (n := w.heap.size) inferInstance)); intro v9 w9 ho9 hg9; have P9 := HPX.out.tc.app ho9 hg9; generalize hG9 : bb ++ e5 = b9 at P9; have HG9 := hide hG9; have lb9 : b9.length ≤ 800 := (by rw [← hG9, List.length_append]; omega); have HP9 := hide P9; haveI := P9.k; haveI := P9.blw; obtain ⟨A9, c9, e9', _, _⟩ := own_slice P9.oa; subst e9'; clear ho9 hg9 P9 hG9)))
      go_wp2
      go_ret
      exact ⟨_, rfl, by rw [HEQ.out, HG4.out, HG5.out, ← H.out, HG9.out]; exact HP9.out.ret, HP9.out.hB⟩
set_option maxRecDepth 100000 in
set_option maxHeartbeats 4000000 in
theorem refKBytes_3 (w : World) (h : Reads w w.heap.size 4 HA hs.length (hcs hs)) (hbb : Reads w w.heap.size 1 BA bs.length (bcs bs)) (hpp : Sl w PA ps) (f1 : wfU64 i) (f2 : 0 ≤ hp ∧ hp ≤ 8) (f3 : ∀ p ∈ hs, 1 ≤ p.d ∧ p.d ≤ 10 ∧ wfU64 p.c ∧ wfU64 p.s ∧ wfU64 p.i) (hl : hs.length ≤ 10) (hbl : bs.length ≤ 320) (hok : bOK bs) :
    Calls Tryz.prog 10 #[PkV 3 n i hp HA hs.length hcp BA bs.length bcp an ai sq PA ps.length pcp] w (RetY w (3 :: ackE n i hp hs)) := by
  have HEQ : Hid (3 :: ackE n i hp hs = (([3] ++ procsB [(n, i)]) ++ [hp, (hs.length : Int)]) ++ hs.flatMap haB) := hide (by simp [advE, datE, ackE, topB, lsB, procsB])
  generalize 3 :: ackE n i hp hs = en at HEQ ⊢
  haveI : Src w HA hs.length 4 (hcs hs) := ⟨h⟩
  haveI : Src w PA ps.length 2 (pcs ps) := ⟨hpp⟩
  haveI : RdY w BA bs.length bs := ⟨hbb⟩
  have HY := hide hbb
  clear h hbb hpp
  have HP0 := hide (PB.one w (csK 3 n i hp HA hs.length hcp BA bs.length bcp an ai sq PA ps.length pcp) 31 3)
  have TB1 := hide (fun A c W (h : Sl W A [(n, i)]) => refBytes_s A c [(n, i)] W h (by simp) (by intro p hp; simp at hp; rw [hp]; exact f1))
  have l1 : (procsB [(n, i)]).length ≤ 11 := procsB_len _
  simp only [List.length_singleton] at TB1
  generalize procsB [(n, i)] = e1 at TB1 l1 HEQ
  have m1 : (hs.length : Int) % 256 = (hs.length : Int) := by omega
  have m2 : hp % 256 = hp := by omega
  have HF := hide f3
  clear f1 f2 f3 hok
  go_enter Tryz.func10, Tryz.ntmps10
  go_wp2_with fail
  (with_reducible refine (TB1.out _ _ _ (sl_p1x _ _ _ _)).mono ?_)
  rintro e wB0 ⟨vB, rfl, hoB, hbB⟩
  haveI : Stp _ wB0 := ⟨hbB⟩
  obtain ⟨AB, cB, rfl, _, _⟩ := own_slice hoB
  have HOB := hide hoB
  clear hoB hbB
  go_wp2_with (first | ((at_builtin; refine wpList_append_w Tryz.okB rfl (.tmp 40) (.tmp 44) rfl (w.heap.size + 1) (.slice (some ⟨w.heap.size + 1, 0, none⟩) 1 1) 1 (bcs [3]) e1.length (bcs e1) ?_ ?_ ?_ ?_ ?_ ?_ ?_ ?_; go_must ((focus (first | rfl | (simp [Act.eval, Act.put]; done))); (focus (exact own_tc HP0.out.oa)); (focus (refine ⟨_, _, rfl, ?_⟩; exact Reads.of_own HOB.out)); (focus (exact bcs_one _)); (focus (unfold maxLen; omega)); (focus omega); (focus (first | omega | (simp; done) | (simp; omega) | exact BoxAt.lt (n := w.heap.size) inferInstance)); intro v4 w4 ho4 hg4; have P4 := (HP0.out.tc).app (bs := [3]) ho4 hg4; generalize hG4 : [3] ++ e1 = b4 at P4; have HG4 := hide hG4; have lb4 : b4.length ≤ 12 := (by rw [← hG4, List.length_append, List.length_singleton]; omega); have HP4 := hide P4; haveI := P4.k; haveI := P4.blw; obtain ⟨A4, c4, e4', _, _⟩ := own_slice P4.oa; subst e4'; clear ho4 hg4 P4 hG4))) | ((at_builtin; refine wpList_append_w Tryz.okB rfl (.tmp 46) (.tmp 54) rfl (w.heap.size + 1) (.slice A4 b4.length c4) b4.length (bcs b4) 2 (bcs [hp, (hs.length : Int)]) ?_ ?_ ?_ ?_ ?_ ?_ ?_ ?_; go_must ((focus (first | rfl | (simp [Act.eval, Act.put]; done))); (focus (exact (HP4.out.tc).oa)); (focus (refine ⟨_, _, rfl, ?_⟩; exact reads_b2x _ _ _ _)); (focus (exact bcs_one _)); (focus (unfold maxLen; omega)); (focus omega); (focus (first | exact (HP4.out.tc).sz | omega | (simp; done) | (simp; omega) | exact BoxAt.lt (n := w.heap.size) inferInstance)); intro v5 w5 ho5 hg5; have P5 := HP4.out.tc.app ho5 hg5; generalize hG5 : b4 ++ [hp, (hs.length : Int)] = b5 at P5; have HG5 := hide hG5; have lb5 : b5.length ≤ 14 := (by rw [← hG5, List.length_append]; simp only [List.length_cons, List.length_nil]; omega); have HP5 := hide P5; haveI := P5.k; haveI := P5.blw; obtain ⟨A5, c5, e5', _, _⟩ := own_slice P5.oa; subst e5'; clear ho5 hg5 P5 hG5))))
  clear HP0 HOB HP4 m1 m2
  go_loopw [3, 4] (fun v j wr => ∃ (m : Nat) (bb : List Int), m ≤ hs.length ∧ j = .int .i64 m ∧ PB w (csK 3 n i hp HA hs.length hcp BA bs.length bcp an ai sq PA ps.length pcp) 31 v bb wr ∧ bb = b5 ++ (hs.take m).flatMap haB) (fun _ j _ => hs.length - (intOf j).toNat)
  case atStart => exact ⟨0, b5, Nat.zero_le _, rfl, HP5.out, by simp⟩
  case round =>
    obtain ⟨m, bb, hm, rfl, P, hbb⟩ := hrel
    obtain ⟨AX, cX, rfl, _, _⟩ := own_slice P.oa
    have lbb : bb.length ≤ 14 + m * 31 := by
      rw [hbb, List.length_append]
      have := flat_lenM (f := haB) (B := 31) (hs.take m) (fun x hx => by
        have h1 := uintB_len x.c; have h2 := uintB_len x.s; have h3 := uintB_len x.i
        simp only [hdB, haB, List.length_cons, List.length_append]; omega)
      rw [List.length_take] at this
      have e : min m hs.length = m := by omega
      rw [e] at this; omega
    have HBB := hide hbb
    have HPX := hide P
    haveI := P.k
    haveI := P.blw
    clear hbb P
    by_cases hlt : m < hs.length
    · obtain ⟨b, off, p, rfl, hb, hp', g1, g2, g3, g4⟩ := (show Reads wr w.heap.size 4 HA hs.length (hcs hs) from srcB).at4 hlt
      have HP' := hide hp'
      haveI : InW b wr := ⟨Nat.lt_of_lt_of_le hb (Blw.h (a := w) (W := wr)).size⟩
      have i0 : (0 : Int) ≤ (m : Int) := by omega
      have i1 : (m : Int) < (hs.length : Int) := by omega
      obtain ⟨q1, q2, q3, q4, q5⟩ := HF.out p (List.mem_of_getElem? hp')
      have m3 : p.d % 256 = p.d := by omega
      have T6 := hide (fun W => short_s p.c W q3)
      have l6 := uintB_len p.c
      generalize hu6 : uintB p.c = e6 at T6 l6
      have HU6 := hide hu6
      have T7 := hide (fun W => short_s p.s W q4)
      have l7 := uintB_len p.s
      generalize hu7 : uintB p.s = e7 at T7 l7
      have HU7 := hide hu7
      have T8 := hide (fun W => short_s p.i W q5)
      have l8 := uintB_len p.i
      generalize hu8 : uintB p.i = e8 at T8 l8
      have HU8 := hide hu8
      clear hu8
      clear hp' hu6 hu7 q3 q4 q5
      go_wp2_with ((at_builtin; refine wpList_append_w Tryz.okB rfl (.tmp 68) (.tmp 72) rfl (w.heap.size + 1) (.slice AX bb.length cX) bb.length (bcs bb) 1 (bcs [p.d]) ?_ ?_ ?_ ?_ ?_ ?_ ?_ ?_; go_must ((focus (first | rfl | (simp [Act.eval, Act.put]; done))); (focus (exact (HPX.out.tc).oa)); (focus (refine ⟨_, _, rfl, ?_⟩; exact reads_b1x _ _ _)); (focus (exact bcs_one _)); (focus (unfold maxLen; omega)); (focus omega); (focus (first | exact (HPX.out.tc).sz | omega | (simp; done) | (simp; omega) | exact BoxAt.lt (n := w.heap.size) inferInstance)); intro v6 w6 ho6 hg6; have P6 := HPX.out.tc.app ho6 hg6; generalize hG6 : bb ++ [p.d] = b6 at P6; have HG6 := hide hG6; have lb6 : b6.length ≤ (15 + m * 31) := (by rw [← hG6, List.length_append]; simp only [List.length_cons, List.length_nil]; omega); have HP6 := hide P6; haveI := P6.k; haveI := P6.blw; obtain ⟨A6, c6, e6', _, _⟩ := own_slice P6.oa; subst e6'; haveI : BoxAt w6 wr.heap.size #[.int .i64 p.d, .int .u64 p.c, .int .u64 p.s, .int .u64 p.i] 46 := PB.box (HPX.out.tc) hg6 inferInstance (by decide); clear ho6 hg6 P6 hG6)))
      clear HPX
      (with_reducible refine (T6.out _).mono ?_)
      rintro e wB6 ⟨vB, rfl, hoB, hbB⟩
      haveI : Stp _ wB6 := ⟨hbB⟩
      obtain ⟨AB, cB, rfl, _, _⟩ := own_slice hoB
      have HOB := hide hoB
      clear hoB hbB
      go_wp2_with ((at_builtin; refine wpList_append_w Tryz.okB rfl (.tmp 74) (.tmp 77) rfl (w.heap.size + 1) (.slice A6 b6.length c6) b6.length (bcs b6) e6.length (bcs e6) ?_ ?_ ?_ ?_ ?_ ?_ ?_ ?_; go_must ((focus (first | rfl | (simp [Act.eval, Act.put]; done))); (focus (exact (HP6.out.tc).oa)); (focus (refine ⟨_, _, rfl, ?_⟩; exact Reads.of_own HOB.out)); (focus (exact bcs_one _)); (focus (unfold maxLen; omega)); (focus omega); (focus (first | exact (HP6.out.tc).sz | omega | (simp; done) | (simp; omega) | exact BoxAt.lt (n := w.heap.size) inferInstance)); intro v7 w7 ho7 hg7; have P7 := HP6.out.tc.app ho7 hg7; generalize hG7 : b6 ++ e6 = b7 at P7; have HG7 := hide hG7; have lb7 : b7.length ≤ (25 + m * 31) := (by rw [← hG7, List.length_append]; omega); have HP7 := hide P7; haveI := P7.k; haveI := P7.blw; obtain ⟨A7, c7, e7', _, _⟩ := own_slice P7.oa; subst e7'; haveI : BoxAt w7 wr.heap.size #[.int .i64 p.d, .int .u64 p.c, .int .u64 p.s, .int .u64 p.i] 46 := PB.box (HP6.out.tc) hg7 inferInstance (by decide); clear ho7 hg7 P7 hG7)))
      clear HP6 HOB
      (with_reducible refine (T7.out _).mono ?_)
      rintro e wB7 ⟨vB, rfl, hoB, hbB⟩
      haveI : Stp _ wB7 := ⟨hbB⟩
      obtain ⟨AB, cB, rfl, _, _⟩ := own_slice hoB
      have HOB := hide hoB
      clear hoB hbB
      go_wp2_with ((at_builtin; refine wpList_append_w Tryz.okB rfl (.tmp 79) (.tmp 82) rfl (w.heap.size + 1) (.slice A7 b7.length c7) b7.length (bcs b7) e7.length (bcs e7) ?_ ?_ ?_ ?_ ?_ ?_ ?_ ?_; go_must ((focus (first | rfl | (simp [Act.eval, Act.put]; done))); (focus (exact (HP7.out.tc).oa)); (focus (refine ⟨_, _, rfl, ?_⟩; exact Reads.of_own HOB.out)); (focus (exact bcs_one _)); (focus (unfold maxLen; omega)); (focus omega); (focus (first | exact (HP7.out.tc).sz | omega | (simp; done) | (simp; omega) | exact BoxAt.lt (n := w.heap.size) inferInstance)); intro v8 w8 ho8 hg8; have P8 := HP7.out.tc.app ho8 hg8; generalize hG8 : b7 ++ e7 = b8 at P8; have HG8 := hide hG8; have lb8 : b8.length ≤ (35 + m * 31) := (by rw [← hG8, List.length_append]; omega); have HP8 := hide P8; haveI := P8.k; haveI := P8.blw; obtain ⟨A8, c8, e8', _, _⟩ := own_slice P8.oa; subst e8'; haveI : BoxAt w8 wr.heap.size #[.int .i64 p.d, .int .u64 p.c, .int .u64 p.s, .int .u64 p.i] 46 := PB.box (HP7.out.tc) hg8 inferInstance (by decide); clear ho8 hg8 P8 hG8)))
      clear HP7 HOB
      (with_reducible refine (T8.out _).mono ?_)
      rintro e wB8 ⟨vB, rfl, hoB, hbB⟩
      haveI : Stp _ wB8 := ⟨hbB⟩
      obtain ⟨AB, cB, rfl, _, _⟩ := own_slice hoB
      have HOB := hide hoB
      clear hoB hbB
      go_wp2_with ((at_builtin; refine wpList_append_w Tryz.okB rfl (.tmp 87) (.tmp 90) rfl (w.heap.size + 1) (.slice A8 b8.length c8) b8.length (bcs b8) e8.length (bcs e8) ?_ ?_ ?_ ?_ ?_ ?_ ?_ ?_; go_must ((focus (first | rfl | (simp [Act.eval, Act.put]; done))); (focus (exact (HP8.out.tc).oa)); (focus (refine ⟨_, _, rfl, ?_⟩; exact Reads.of_own HOB.out)); (focus (exact bcs_one _)); (focus (unfold maxLen; omega)); (focus omega); (focus (first | exact (HP8.out.tc).sz | omega | (simp; done) | (simp; omega) | exact BoxAt.lt (n := w.heap.size) inferInstance)); intro v9 w9 ho9 hg9; have P9 := HP8.out.tc.app ho9 hg9; generalize hG9 : b8 ++ e8 = b9 at P9; have HG9 := hide hG9; have lb9 : b9.length ≤ (45 + m * 31) := (by rw [← hG9, List.length_append]; omega); have HP9 := hide P9; haveI := P9.k; haveI := P9.blw; obtain ⟨A9, c9, e9', _, _⟩ := own_slice P9.oa; subst e9'; clear ho9 hg9 P9 hG9)))
      clear HP8 HOB
      go_wp2
      go_roundw
      case rel => exact ⟨m + 1, b9, by omega, by go_num, HP9.out, by rw [take_succ_of HP'.out, List.flatMap_append, ← List.append_assoc, ← HBB.out, ← HG9.out, ← HG8.out, ← HG7.out, ← HG6.out]; simp [haB, HU6.out, HU7.out, HU8.out]⟩
      case measure => simp [intOf]; omega
    · have H := hide (show bb = b5 ++ hs.flatMap haB by
        have : m = hs.length := by omega
        subst this; have := HBB.out; rw [List.take_length] at this; exact this)
      have lb2 : bb.length ≤ 400 := by omega
      go_wp2
      go_ret
      exact ⟨_, rfl, by rw [HEQ.out, HG4.out, HG5.out, ← H.out]; exact HPX.out.ret, HPX.out.hB⟩
end
theorem refKBytes_s (x : Pk) (HA : Option Addr) (hcp : Nat) (BA : Option Addr) (bcp : Nat) (PA : Option Addr) (pcp : Nat) (w : World) (h : PkIn w x HA BA PA) (hf : PkF x) (hm : x.mayB = true) :
    Calls Tryz.prog 10 #[x.at HA hcp BA bcp PA pcp] w (RetY w x.enc) := by
  obtain ⟨f1, f2, f3, f4, f5, f6⟩ := hf
  obtain ⟨h1, h2, h3, _, _, _⟩ := h
  obtain ⟨k, n, i, hp, hs, bs, an, ai, sq, ps⟩ := x
  simp only at f1 f2 f3 f4 f5 f6 h1 h2 h3
  by_cases k1 : k = 1
  · subst k1
    have hl : ps.length ≤ 200 := by simp [Pk.mayB, mayKB, advB] at hm; omega
    exact refKBytes_1 n i hp HA hcp hs BA bcp bs an ai sq PA pcp ps w h1 h2 h3 f2 f3 f6 hl
  by_cases k2 : k = 2
  · subst k2
    simp only [Pk.mayB, mayKB, dataB, sentB, if_true, show (2 : Int) = 1 ↔ False from by simp, if_false, Bool.and_eq_true, Bool.not_eq_true', decide_eq_false_iff_not] at hm
    obtain ⟨⟨a1, a2, a3, a4, a5, a6, a7, a8⟩, a9, a10, a11⟩ := hm
    exact refKBytes_2 n i hp HA hcp hs BA bcp bs an ai sq PA pcp ps w h1 h2 h3 f1 ⟨by omega, by omega⟩ (fun p hp => ⟨(head_facts (heads_each a8 p hp)).1, (head_facts (heads_each a8 p hp)).2.1, (f4 p hp).1, (f4 p hp).2.1, (f4 p hp).2.2⟩) (heads_ten a8) (by omega) f5
  by_cases k3 : k = 3
  · subst k3
    simp only [Pk.mayB, mayKB, ackB, sentB, if_true, show (3 : Int) = 1 ↔ False from by simp, show (3 : Int) = 2 ↔ False from by simp, if_false, Bool.and_eq_true, Bool.not_eq_true', decide_eq_false_iff_not, bne_eq_false_iff_eq] at hm
    obtain ⟨⟨a1, a2, a3, a4, a5, a6, a7, a8⟩, a9, a10, a11⟩ := hm
    exact refKBytes_3 n i hp HA hcp hs BA bcp bs an ai sq PA pcp ps w h1 h2 h3 f1 ⟨by omega, by omega⟩ (fun p hp => ⟨(head_facts (heads_each a8 p hp)).1, (head_facts (heads_each a8 p hp)).2.1, (f4 p hp).1, (f4 p hp).2.1, (f4 p hp).2.2⟩) (heads_ten a8) (by omega) f5
  · exfalso
    simp [Pk.mayB, mayKB, k1, k2, k3] at hm
end Go.Proofs.YtggmninbpnolgaaGreat
